/- Parts of the proofs, put together by a program. -/
import Derived.Test.YtejhifnjgoclpaaGreatDoorS30
set_option linter.unusedVariables false
set_option linter.unusedSimpArgs false
open Option renaming bind_some->ae2
open List renaming getElem_mem->ae3,length_map->ae4,getElem?_eq_getElem->ae9,length_append->as0,mem_append->as3,length_cons->as5,append_nil->at0,drop_eq_getElem_cons->at2,mem_cons->at3,map_append->at4,mem_singleton->at5,length_take->at6,append_assoc->at8,mem_map->au0,take_length->au3,length_drop->au4,getElem_map->au5,take_append_drop->au6,length_singleton->au7,getElem_of_mem->au8,drop_zero->av0,drop_length->av3,length_pos_iff->av5,not_mem_nil->av6,take_succ_eq_append_getElem->aw0,pairwise_iff_getElem->ax7,any_eq_true->ax9,any_eq_false->aA1
open Nat renaming le_refl->ae5,zero_le->ae6,le_trans->au2,lt_trichotomy->ay7
open Bool renaming not_true->ae8,not_false->as4,true_and->au1,eq_false_or_eq_true->av8
open Int renaming toNat_natCast->as1,lt_irrefl->as2
namespace Go.Proofs.YtejhifnjgoclpaaGreatDoor.Fx
open Go.RowKit
set_option maxRecDepth 1000000
noncomputable section
abbrev b9:=List (kL×aA)
abbrev mZ:=b9×Unit
abbrev xS:=Int×bK×aK×aS×ae×ae×ae×ae×Bool×aK×aK×oK×mZ
abbrev adh:=Int×Int×Int×Int×Int×mZ
abbrev VJ:=aK×aA×Int×bK×aK×aS×adh
abbrev adq:=Lp (aK×aA×Int×Int×bK×aK×aS×Int×Int×Int×Int×Int×adh) VJ
abbrev q9:=Option b9
def Mg (op:Int) (v:pN):Option pN:=let D:Option pN:=bif decide (op=6) then J (aa .i64 (v.2.1+1))<|some (v.1,(v.2.1+1),0,[]) else bif decide (0<v.2.1) then J (aa .i64 (v.2.1+1))<|some (v.1,(v.2.1+1),0,[]) else J (aa .i64 (v.2.2.1+1))<|some (v.1,v.2.1,(v.2.2.1+1),[]);bif decide (op=7) then bif decide (0<v.1) then J (aa .i64 (v.1+1))<|some ((v.1+1),0,0,[]) else D else D
def Lt (c:Int×pN) (v:pN):bz:=(tA v c.2).bind fun D=>bif decide (c.1=0) then some (decide (D=0)) else bif decide (c.1=1) then some (!decide (D=0)) else bif decide (c.1=2) then some (decide (D<0)) else bif decide (c.1=3) then some (decide (D<=0)) else bif decide (c.1=4) then some (decide (0<D)) else bif decide (c.1=5) then some (decide (0<=D)) else bif decide (c.1=8) then some true else bif decide (0<=D) then(Mg c.1 c.2).bind fun end_=>(tA v end_).bind fun F=>some (decide (F<0)) else some false
def Fc:Lp (kM×Int×Bool×Bool×Int×oI) (kM×Int×Bool×Bool×oI):=fun(Y,U,av,ar,D,N,O,M,Z,_)=>let ah:Option (kM×Int×Bool×Bool×Int×oI⊕kM×Int×Bool×Bool×oI):=J (aa .i64 (D+1))<|some (.inl (Y,U,false,ar,(D+1),N,O,M,Z,()));let an:Bool->Option (kM×Int×Bool×Bool×Int×oI⊕kM×Int×Bool×Bool×oI):=fun holds=>J (aa .i64 (D+1))<|some (.inl (Y,U,holds,ar,(D+1),N,O,M,Z,()));(ag Y U).bind fun az=>bif decide (D<(az.length:Int)) then(ag Y U).bind fun aE=>(ag aE D).bind fun F=>bif av then(Lt F (N,O,M,Z)).bind fun holds=>bif decide (0<(F.2.2.2.2.length:Int)) then bif decide (F.2.1=N) then bif decide (F.2.2.1=O) then bif decide (F.2.2.2.1=M) then J (aa .i64 (D+1))<|some (.inl (Y,U,holds,true,(D+1),N,O,M,Z,())) else an holds else an holds else an holds else an holds else bif decide (0<(F.2.2.2.2.length:Int)) then bif decide (F.2.1=N) then bif decide (F.2.2.1=O) then bif decide (F.2.2.2.1=M) then J (aa .i64 (D+1))<|some (.inl (Y,U,false,true,(D+1),N,O,M,Z,())) else ah else ah else ah else ah else some (.inr (Y,U,av,ar,N,O,M,Z,()))
def Lu:Lp (kM×Int×oI) jq:=fun(Z,Y,x3,an,ar,U,_)=>bif decide (Y<(Z.length:Int)) then(ab Fc (Z,Y,true,decide ((U.length:Int)=0),0,x3,an,ar,U,())).bind fun(ah,D,av,az,F,M,N,O,_)=>bif av then bif az then some (.inr (.inr (()))) else J (aa .i64 (D+1))<|some (.inl (ah,(D+1),F,M,N,O,())) else J (aa .i64 (D+1))<|some (.inl (ah,(D+1),F,M,N,O,())) else some (.inr (.inl (())))
def FV (x:kM) (D:pN):bz:=(ab Lu (x,0,D.1,D.2.1,D.2.2.1,D.2.2.2,())).bind fun o=>match o with|.inl (_)=>some false|.inr (_)=>some true
def RZ:Lp (bK×kM×Bool×Int×ae×ae×aD×gV) gV:=fun(D,r,ok,i,M,N,O,F,_)=>bif decide (i<(D.length:Int)) then(ag D i).bind fun Y=>(qn Y.1.2.1).bind fun U=>(ag D i).bind fun Z=>bif decide (Z.1.1=M) then bif ok then bif U.2 then(FV r U.1).bind fun has=>bif has then J (F.length+([i]:aA).length<=1000000000)<|J (aa .i64 (i+1))<|some (.inl (D,r,ok,(i+1),M,N,O,(F++([i]:aA)),())) else J (aa .i64 (i+1))<|some (.inl (D,r,ok,(i+1),M,N,O,F,())) else J (aa .i64 (i+1))<|some (.inl (D,r,ok,(i+1),M,N,O,F,())) else J (aa .i64 (i+1))<|some (.inl (D,r,ok,(i+1),M,N,O,F,())) else J (aa .i64 (i+1))<|some (.inl (D,r,ok,(i+1),M,N,O,F,())) else some (.inr (F,()))
def F4 (l:bK) (n:xm):nh:=(zU n.2.1).bind fun parse=>(ab RZ (l,parse.1,parse.2,0,n.1,n.2.1,n.2.2,[],())).bind fun(D,_)=>some D
def JL:Lp (aA×xl) gV:=fun(l,i,D,_)=>bif decide (i<(l.length:Int)) then(ag l i).bind fun F=>J (aa .i64 (F+1))<|J (D.length+([(F+1)]:aA).length<=1000000000)<|J (aa .i64 (i+1))<|some (.inl (l,(i+1),(D++([(F+1)]:aA)),())) else some (.inr (D,()))
def rK (c:mY) (n:xm):nh:=(F4 c.1 n).bind fun D=>(ab JL (D,0,[],())).bind fun(F,_)=>some F
def E5:Lp uH jq:=fun(D,F,i,_)=>bif decide (i<(D.length:Int)) then(ag D i).bind fun M=>bif decide (M=F) then some (.inr (.inr (()))) else J (aa .i64 (i+1))<|some (.inl (D,F,(i+1),())) else some (.inr (.inl (())))
def FT (c:aA) (x:Int):bz:=(ab E5 (c,x,0,())).bind fun o=>match o with|.inl (_)=>some false|.inr (_)=>some true
def wA (x:Int):bH:=bif decide (x<0) then J (aa .i64 (0 - x))<|some (0 - x) else some x
def EB (a:Int) (b:Int):bz:=(wA a).bind fun var=>(wA b).bind fun D=>bif decide (var<D) then some true else(wA a).bind fun F=>(wA b).bind fun J=>bif decide (F=J) then some (decide (a<b)) else some false
def zu:Lp (aA×xn) (aA×xn):=fun(N,F,D,M,_)=>bif decide (0<D) then J (0<=F/\F<M.length)<|(M[F.toNat]?).bind fun U=>J (aa .i64 (D - 1))<|(ag N (D - 1)).bind fun O=>(EB U O).bind fun before=>bif before then J (aa .i64 (D - 1))<|some (.inl (N,F,(D - 1),M,())) else some (.inr (N,F,D,M,())) else some (.inr (N,F,D,M,()))
def zt:Lp (aA×xl) (aA×gV):=fun(O,i,M,_)=>bif decide (i<(M.length:Int)) then J (0<=i/\i<M.length)<|(M[i.toNat]?).bind fun y=>(FT O y).bind fun has=>bif has then J (aa .i64 (i+1))<|some (.inl (O,(i+1),M,())) else(ab zu (O,i,(O.length:Int),M,())).bind fun(D,N,F,U,_)=>J (0<=(0:Int)/\(0:Int)<=F/\F<=D.length)<|J (((D.take F.toNat).drop (0:Int).toNat).length<=1000000000)<|J (0<=N/\N<U.length)<|(U[N.toNat]?).bind fun Y=>J (((D.take F.toNat).drop (0:Int).toNat).length+([Y]:aA).length<=1000000000)<|J (0<=F/\F<=(D.length:Int)/\(D.length:Int)<=D.length)<|J ((((D.take F.toNat).drop (0:Int).toNat)++([Y]:aA)).length+((D.take (D.length:Int).toNat).drop F.toNat).length<=1000000000)<|J (aa .i64 (N+1))<|some (.inl (((((D.take F.toNat).drop (0:Int).toNat)++([Y]:aA))++((D.take (D.length:Int).toNat).drop F.toNat)),(N+1),U,())) else some (.inr (O,M,()))
def kY (l:aA):Option (aA×aA):=(ab zt ([],0,l,())).bind fun(F,D,_)=>some (F,D)
def DE:Lp (Int×bK×aK×aS×ae×p5) jr:=fun(i,D,U,F,M,N,_)=>bif decide (i<(F.length:Int)) then(ag F i).bind fun O=>bif (decide (O.1=M)&&decide (O.2=N)) then J (aa .i64 ((D.length:Int)+i))<|J (aa .i64 (((D.length:Int)+i)+1))<|some (.inr (.inr ((((D.length:Int)+i)+1),()))) else J (aa .i64 (i+1))<|some (.inl ((i+1),D,U,F,M,N,())) else some (.inr (.inl (())))
def mz (c:mY) (t:iw):bH:=(ab DE (0,c.1,c.2.1,c.2.2,t.1,t.2,())).bind fun o=>match o with|.inl (_)=>some 0|.inr (D,_)=>some D
def yj:adq:=fun(N,F,M,D,ar,av,az,aE,a1,a6,a7,a8,O,U,Z,ah,an,Y,_)=>(ag N M).bind fun b6=>bif decide (D<(b6.2.2.length:Int)) then bif decide (aE=4) then J (F.length<=1000000000)<|(ag N M).bind fun b7=>(ag N M).bind fun cc=>(ag cc.2.2 D).bind fun b3=>(mz (ar,av,az) (b7.1,b3)).bind fun b0=>J (F.length+([b0]:aA).length<=1000000000)<|(kY (F++([b0]:aA))).bind fun bx=>J (Y.length+([((O,U,Z,D,an),bx.1)]:b9).length<=1000000000)<|J (aa .i64 (D+1))<|some (.inl (N,F,M,(D+1),ar,av,az,aE,a1,a6,a7,a8,O,U,Z,ah,an,(Y++([((O,U,Z,D,an),bx.1)]:b9)),())) else bif decide (aE=7) then J (F.length<=1000000000)<|(ag N M).bind fun b8=>(ag N M).bind fun cd=>(ag cd.2.2 D).bind fun b4=>(mz (ar,av,az) (b8.1,b4)).bind fun b1=>J (F.length+([b1]:aA).length<=1000000000)<|(kY (F++([b1]:aA))).bind fun bb=>J (Y.length+([((O,U,Z,ah,D),bb.1)]:b9).length<=1000000000)<|J (aa .i64 (D+1))<|some (.inl (N,F,M,(D+1),ar,av,az,aE,a1,a6,a7,a8,O,U,Z,ah,an,(Y++([((O,U,Z,ah,D),bb.1)]:b9)),())) else J (F.length<=1000000000)<|(ag N M).bind fun ca=>(ag N M).bind fun ch=>(ag ch.2.2 D).bind fun b5=>(mz (ar,av,az) (ca.1,b5)).bind fun b2=>J (F.length+([b2]:aA).length<=1000000000)<|(kY (F++([b2]:aA))).bind fun bp=>J (Y.length+([((O,U,D,ah,an),bp.1)]:b9).length<=1000000000)<|J (aa .i64 (D+1))<|some (.inl (N,F,M,(D+1),ar,av,az,aE,a1,a6,a7,a8,O,U,Z,ah,an,(Y++([((O,U,D,ah,an),bp.1)]:b9)),())) else some (.inr (N,F,M,ar,av,az,aE,a1,a6,a7,a8,Y,()))
def yi:Lp VJ mZ:=fun(ah,M,D,x5,an,ar,F,O,U,Y,N,Z,_)=>bif decide (D<(ah.length:Int)) then J (aa .i64 (F+1))<|bif decide (F=4) then J (M.length<=1000000000)<|(ag ah D).bind fun b3=>(rK (x5,an,ar) b3).bind fun some_=>J (M.length+some_.length<=1000000000)<|(kY (M++some_)).bind fun norm=>J (Z.length+([((F,O,D,Y,N),norm.1)]:b9).length<=1000000000)<|(ab yj (ah,M,D,0,x5,an,ar,F,O,U,Y,N,(F+1),O,D,Y,N,(Z++([((F,O,D,Y,N),norm.1)]:b9)),())).bind fun(bp,b1,a6,b8)=>J (aa .i64 (a6+1))<|some (.inl (bp,b1,(a6+1),b8)) else bif decide (F=7) then J (M.length<=1000000000)<|(ag ah D).bind fun b4=>(rK (x5,an,ar) b4).bind fun aE=>J (M.length+aE.length<=1000000000)<|(kY (M++aE)).bind fun av=>J (Z.length+([((F,O,U,D,N),av.1)]:b9).length<=1000000000)<|(ab yj (ah,M,D,0,x5,an,ar,F,O,U,Y,N,(F+1),O,U,D,N,(Z++([((F,O,U,D,N),av.1)]:b9)),())).bind fun(bx,b2,a7,b6)=>J (aa .i64 (a7+1))<|some (.inl (bx,b2,(a7+1),b6)) else J (M.length<=1000000000)<|(ag ah D).bind fun b5=>(rK (x5,an,ar) b5).bind fun a1=>J (M.length+a1.length<=1000000000)<|(kY (M++a1)).bind fun az=>J (Z.length+([((F,D,U,Y,N),az.1)]:b9).length<=1000000000)<|(ab yj (ah,M,D,0,x5,an,ar,F,O,U,Y,N,(F+1),D,U,Y,N,(Z++([((F,D,U,Y,N),az.1)]:b9)),())).bind fun(bb,b0,a8,b7)=>J (aa .i64 (a8+1))<|some (.inl (bb,b0,(a8+1),b7)) else some (.inr (Z,()))
def CM (x:mY) (J:aK) (D:kL) (M:aA):q9:=(ab yi (J,M,0,x.1,x.2.1,x.2.2,D.1,D.2.1,D.2.2.1,D.2.2.2.1,D.2.2.2.2,[],())).bind fun(F,_)=>some F
def tx:Lp (aA×uH) (aA×uH):=fun(F,N,M,D,_)=>bif decide (0<D) then(ag F M).bind fun O=>J (aa .i64 (D - 1))<|(ag N (D - 1)).bind fun U=>(EB O U).bind fun before=>bif before then J (aa .i64 (D - 1))<|some (.inl (F,N,M,(D - 1),())) else some (.inr (F,N,M,D,())) else some (.inr (F,N,M,D,()))
def y6:Lp (aA×sI) gV:=fun(N,M,i,_)=>bif decide (i<(N.length:Int)) then(ag N i).bind fun Z=>(FT M Z).bind fun has=>bif has then J (aa .i64 (i+1))<|some (.inl (N,M,(i+1),())) else(ab tx (N,M,i,(M.length:Int),())).bind fun(Y,D,O,F,_)=>J (0<=(0:Int)/\(0:Int)<=F/\F<=D.length)<|J (((D.take F.toNat).drop (0:Int).toNat).length<=1000000000)<|(ag Y O).bind fun U=>J (((D.take F.toNat).drop (0:Int).toNat).length+([U]:aA).length<=1000000000)<|J (0<=F/\F<=(D.length:Int)/\(D.length:Int)<=D.length)<|J ((((D.take F.toNat).drop (0:Int).toNat)++([U]:aA)).length+((D.take (D.length:Int).toNat).drop F.toNat).length<=1000000000)<|J (aa .i64 (O+1))<|some (.inl (Y,((((D.take F.toNat).drop (0:Int).toNat)++([U]:aA))++((D.take (D.length:Int).toNat).drop F.toNat)),(O+1),())) else some (.inr (M,()))
def EA (c:aA):nh:=(ab y6 (c,[],0,())).bind fun(D,_)=>some D
def yw:adq:=fun(N,F,M,D,ar,av,az,aE,a1,a6,a7,a8,O,U,Z,ah,an,Y,_)=>(ag N M).bind fun b6=>bif decide (D<(b6.2.2.length:Int)) then bif decide (aE=4) then J (F.length<=1000000000)<|(ag N M).bind fun b7=>(ag N M).bind fun cc=>(ag cc.2.2 D).bind fun b3=>(mz (ar,av,az) (b7.1,b3)).bind fun b0=>J (F.length+([b0]:aA).length<=1000000000)<|(kY (F++([b0]:aA))).bind fun bx=>J (Y.length+([((O,U,Z,D,an),bx.1)]:b9).length<=1000000000)<|J (aa .i64 (D+1))<|some (.inl (N,F,M,(D+1),ar,av,az,aE,a1,a6,a7,a8,O,U,Z,ah,an,(Y++([((O,U,Z,D,an),bx.1)]:b9)),())) else bif decide (aE=7) then J (F.length<=1000000000)<|(ag N M).bind fun b8=>(ag N M).bind fun cd=>(ag cd.2.2 D).bind fun b4=>(mz (ar,av,az) (b8.1,b4)).bind fun b1=>J (F.length+([b1]:aA).length<=1000000000)<|(kY (F++([b1]:aA))).bind fun bb=>J (Y.length+([((O,U,Z,ah,D),bb.1)]:b9).length<=1000000000)<|J (aa .i64 (D+1))<|some (.inl (N,F,M,(D+1),ar,av,az,aE,a1,a6,a7,a8,O,U,Z,ah,an,(Y++([((O,U,Z,ah,D),bb.1)]:b9)),())) else J (F.length<=1000000000)<|(ag N M).bind fun ca=>(ag N M).bind fun ch=>(ag ch.2.2 D).bind fun b5=>(mz (ar,av,az) (ca.1,b5)).bind fun b2=>J (F.length+([b2]:aA).length<=1000000000)<|(kY (F++([b2]:aA))).bind fun bp=>J (Y.length+([((O,U,D,ah,an),bp.1)]:b9).length<=1000000000)<|J (aa .i64 (D+1))<|some (.inl (N,F,M,(D+1),ar,av,az,aE,a1,a6,a7,a8,O,U,Z,ah,an,(Y++([((O,U,D,ah,an),bp.1)]:b9)),())) else some (.inr (N,F,M,ar,av,az,aE,a1,a6,a7,a8,Y,()))
def yv:Lp VJ mZ:=fun(ah,M,D,x5,an,ar,F,O,U,Y,N,Z,_)=>bif decide (D<(ah.length:Int)) then J (aa .i64 (F+1))<|bif decide (F=4) then J (M.length<=1000000000)<|(ag ah D).bind fun b3=>(rK (x5,an,ar) b3).bind fun some_=>J (M.length+some_.length<=1000000000)<|(kY (M++some_)).bind fun norm=>J (Z.length+([((F,O,D,Y,N),norm.1)]:b9).length<=1000000000)<|(ab yw (ah,M,D,0,x5,an,ar,F,O,U,Y,N,(F+1),O,D,Y,N,(Z++([((F,O,D,Y,N),norm.1)]:b9)),())).bind fun(bp,b1,a6,b8)=>J (aa .i64 (a6+1))<|some (.inl (bp,b1,(a6+1),b8)) else bif decide (F=7) then J (M.length<=1000000000)<|(ag ah D).bind fun b4=>(rK (x5,an,ar) b4).bind fun aE=>J (M.length+aE.length<=1000000000)<|(kY (M++aE)).bind fun av=>J (Z.length+([((F,O,U,D,N),av.1)]:b9).length<=1000000000)<|(ab yw (ah,M,D,0,x5,an,ar,F,O,U,Y,N,(F+1),O,U,D,N,(Z++([((F,O,U,D,N),av.1)]:b9)),())).bind fun(bx,b2,a7,b6)=>J (aa .i64 (a7+1))<|some (.inl (bx,b2,(a7+1),b6)) else J (M.length<=1000000000)<|(ag ah D).bind fun b5=>(rK (x5,an,ar) b5).bind fun a1=>J (M.length+a1.length<=1000000000)<|(kY (M++a1)).bind fun az=>J (Z.length+([((F,D,U,Y,N),az.1)]:b9).length<=1000000000)<|(ab yw (ah,M,D,0,x5,an,ar,F,O,U,Y,N,(F+1),D,U,Y,N,(Z++([((F,D,U,Y,N),az.1)]:b9)),())).bind fun(bb,b0,a8,b7)=>J (aa .i64 (a8+1))<|some (.inl (bb,b0,(a8+1),b7)) else some (.inr (Z,()))
def Dm (x:mY) (J:aK) (D:kL) (M:aA) (l:b9):q9:=(ab yv (J,M,0,x.1,x.2.1,x.2.2,D.1,D.2.1,D.2.2.1,D.2.2.2.1,D.2.2.2.2,l,())).bind fun(F,_)=>some F
def Ey:Lp (ae×Int×ae×ae×ae×ae×Bool×aK×aK×oK×Unit) jr:=fun(F,i,M,N,O,U,Y,Z,ah,D,_)=>bif decide (i<(D.length:Int)) then(ag D i).bind fun an=>bif decide (an.1=F) then some (.inr (.inr (i,()))) else J (aa .i64 (i+1))<|some (.inl (F,(i+1),M,N,O,U,Y,Z,ah,D,())) else some (.inr (.inl (())))
def tM (e:xR) (s:ae):bH:=(ab Ey (s,0,e.1,e.2.1,e.2.2.1,e.2.2.2.1,e.2.2.2.2.1,e.2.2.2.2.2.1,e.2.2.2.2.2.2.1,e.2.2.2.2.2.2.2,())).bind fun o=>match o with|.inl (_)=>some (-1)|.inr (D,_)=>some D
def Dx:Lp (Int×xS) xS:=fun(F,D,M,U,Y,O,aE,Z,ah,an,ar,av,az,N,_)=>bif decide (D<(M.length:Int)) then(ag M D).bind fun a1=>bif decide (a1.1.1=O) then J (aa .i64 (F+1))<|J (aa .i64 (0 - (F+1)))<|J (aa .i64 (D+1))<|J (aa .i64 (0 - (D+1)))<|(EA ([(0 - (F+1)),(0 - (D+1))]:aA)).bind fun norm=>J (N.length+([((3,F,D,0,0),norm)]:b9).length<=1000000000)<|J (aa .i64 (D+1))<|some (.inl (F,(D+1),M,U,Y,O,aE,Z,ah,an,ar,av,az,(N++([((3,F,D,0,0),norm)]:b9)),())) else J (aa .i64 (D+1))<|some (.inl (F,(D+1),M,U,Y,O,aE,Z,ah,an,ar,av,az,N,())) else some (.inr (F,M,U,Y,O,aE,Z,ah,an,ar,av,az,N,()))
def yJ:Lp (Int×xS) xS:=fun(F,D,M,Z,N,O,ah,an,ar,av,az,aE,U,Y,_)=>bif decide (D<(N.length:Int)) then(ag N D).bind fun a8=>bif !decide (a8.1=O) then J (aa .i64 (D+1))<|some (.inl (F,(D+1),M,Z,N,O,ah,an,ar,av,az,aE,U,Y,())) else J (aa .i64 (F+1))<|J (aa .i64 (0 - (F+1)))<|J (aa .i64 ((M.length:Int)+D))<|J (aa .i64 (((M.length:Int)+D)+1))<|J (aa .i64 (0 - (((M.length:Int)+D)+1)))<|(ag N D).bind fun bb=>(tM (O,ah,an,ar,av,az,aE,U) bb.2).bind fun a1=>bif decide (a1<0) then J (Y.length+([((6,F,D,0,0),([(0 - (F+1)),(0 - (((M.length:Int)+D)+1))]:aA))]:b9).length<=1000000000)<|J (aa .i64 (D+1))<|some (.inl (F,(D+1),M,Z,N,O,ah,an,ar,av,az,aE,U,(Y++([((6,F,D,0,0),([(0 - (F+1)),(0 - (((M.length:Int)+D)+1))]:aA))]:b9)),())) else(ag U a1).bind fun a7=>(Dm (M,Z,N) a7.2 (7,F,D,0,0) ([(0 - (F+1)),(0 - (((M.length:Int)+D)+1))]:aA) Y).bind fun a6=>J (aa .i64 (D+1))<|some (.inl (F,(D+1),M,Z,N,O,ah,an,ar,av,az,aE,U,a6,())) else some (.inr (F,M,Z,N,O,ah,an,ar,av,az,aE,U,Y,()))
def JN:Lp (Int×Int×aA×xS) (Int×xS):=fun(D,M,N,F,ah,an,ar,av,az,aE,a1,a6,a7,a8,bb,O,_)=>bif decide (F<(N.length:Int)) then(ag N F).bind fun Z=>J (aa .i64 (D+1))<|J (aa .i64 (0 - (D+1)))<|(ag N F).bind fun U=>J (aa .i64 (U+1))<|J (aa .i64 (0 - (U+1)))<|(EA ([(0 - (D+1)),(0 - (U+1))]:aA)).bind fun Y=>J (O.length+([((9,D,M,Z,0),Y)]:b9).length<=1000000000)<|J (aa .i64 (F+1))<|some (.inl (D,M,N,(F+1),ah,an,ar,av,az,aE,a1,a6,a7,a8,bb,(O++([((9,D,M,Z,0),Y)]:b9)),())) else some (.inr (D,M,ah,an,ar,av,az,aE,a1,a6,a7,a8,bb,O,()))
def JM:Lp (Int×xS) mZ:=fun(ah,D,O,an,ar,az,aE,a1,a6,a7,F,a8,bb,M)=>bif decide (D<(F.length:Int)) then(ag F D).bind fun Y=>(F4 O Y).bind fun U=>(ab JN (ah,D,U,0,O,an,ar,az,aE,a1,a6,a7,F,a8,bb,M)).bind fun(Z,N,av)=>J (aa .i64 (N+1))<|some (.inl (Z,(N+1),av)) else some (.inr (M))
def J9 (x:mY) (M:Int) (l:b9):q9:=(ag x.1 M).bind fun D=>J (aa .i64 (M+1))<|(ab Dx (M,(M+1),x.1,x.2.1,x.2.2,D.1.1,D.1.2.1,D.1.2.2.1,D.1.2.2.2.1,D.1.2.2.2.2.1,D.1.2.2.2.2.2.1,D.1.2.2.2.2.2.2.1,D.1.2.2.2.2.2.2.2,l,())).bind fun(F,N,O,U,av,az,aE,a1,a6,a7,Y,a8,ah,_)=>J (aa .i64 (F+1))<|J (aa .i64 (0 - (F+1)))<|(Dm (N,O,U) Y (4,F,0,0,0) ([(0 - (F+1))]:aA) ah).bind fun dO=>(ab yJ (F,0,N,O,U,av,az,aE,a1,a6,a7,Y,a8,dO,())).bind fun(an,ar)=>(ab JM (an,0,ar)).bind fun(Z,_)=>some Z
def Kf:Lp (aA×sI) (Unit⊕Bool×Unit):=fun(x,y,i,_)=>bif decide (i<5) then(ag x i).bind fun D=>(ag y i).bind fun F=>bif !decide (D=F) then(ag x i).bind fun M=>(ag y i).bind fun N=>some (.inr (.inr (decide (M<N),()))) else J (aa .i64 (i+1))<|some (.inl (x,y,(i+1),())) else some (.inr (.inl (())))
def K1 (a:kL) (b:kL):bz:=(ab Kf (([a.1,a.2.1,a.2.2.1,a.2.2.2.1,a.2.2.2.2]:aA),([b.1,b.2.1,b.2.2.1,b.2.2.2.1,b.2.2.2.2]:aA),0,())).bind fun o=>match o with|.inl (_)=>some false|.inr (D,_)=>some D
def oT (rc:b9->q9):Lp (b9×b9×Int×Int×mZ) mZ:=fun(N,O,D,F,M,_)=>let U:Option (b9×b9×Int×Int×mZ⊕mZ):=bif decide (F=(O.length:Int)) then(ag N D).bind fun Y=>J (M.length+([Y]:b9).length<=1000000000)<|J (aa .i64 (D+1))<|some (.inl (N,O,(D+1),F,(M++([Y]:b9)),())) else bif decide (D<(N.length:Int)) then(ag O F).bind fun ar=>(ag N D).bind fun av=>(K1 ar.1 av.1).bind fun before=>bif !before then(ag N D).bind fun Z=>J (M.length+([Z]:b9).length<=1000000000)<|J (aa .i64 (D+1))<|some (.inl (N,O,(D+1),F,(M++([Z]:b9)),())) else(ag O F).bind fun ah=>J (M.length+([ah]:b9).length<=1000000000)<|J (aa .i64 (F+1))<|some (.inl (N,O,D,(F+1),(M++([ah]:b9)),())) else(ag O F).bind fun an=>J (M.length+([an]:b9).length<=1000000000)<|J (aa .i64 (F+1))<|some (.inl (N,O,D,(F+1),(M++([an]:b9)),()));bif decide (D<(N.length:Int)) then U else bif decide (F<(O.length:Int)) then U else some (.inr (M,()))
def Ke (rc:b9->q9) (x:b9):q9:=bif decide ((x.length:Int)<2) then some x else J ((2:Int)≠0)<|J (0<=(0:Int)/\(0:Int)<=(IntKind.wrap .i64 ((x.length:Int).tdiv 2))/\(IntKind.wrap .i64 ((x.length:Int).tdiv 2))<=x.length)<|(rc ((x.take (IntKind.wrap .i64 ((x.length:Int).tdiv 2)).toNat).drop (0:Int).toNat)).bind fun sorted=>J ((2:Int)≠0)<|J (0<=(IntKind.wrap .i64 ((x.length:Int).tdiv 2))/\(IntKind.wrap .i64 ((x.length:Int).tdiv 2))<=(x.length:Int)/\(x.length:Int)<=x.length)<|(rc ((x.take (x.length:Int).toNat).drop (IntKind.wrap .i64 ((x.length:Int).tdiv 2)).toNat)).bind fun F=>(ab (oT rc) (sorted,F,0,0,[],())).bind fun(D,_)=>some D
def tw (rc:mZ->q9):mZ->q9:=fun x=>Ke (fun a0=>rc (a0,())) x.1
def QN (a0:b9):q9:=ou tw (a0,())
def JC:Lp (Int×bK×aK×aS×mZ) mZ:=fun(i,D,F,M,N,_)=>bif decide (i<(D.length:Int)) then(J9 (D,F,M) i N).bind fun of=>J (aa .i64 (i+1))<|some (.inl ((i+1),D,F,M,of,())) else some (.inr (N,()))
def rJ (c:mY):q9:=(CM c c.2.1 (1,0,0,0,0) []).bind fun dO=>(ab JC (0,c.1,c.2.1,c.2.2,dO,())).bind fun(D,_)=>(QN D).bind fun sorted=>some sorted
def nN (c:mY):bH:=J (aa .i64 ((c.1.length:Int)+(c.2.2.length:Int)))<|some ((c.1.length:Int)+(c.2.2.length:Int))
def J':Lp (b9×Int×gO×Unit) (gO×Unit):=fun(D,i,F,_)=>bif decide (i<(D.length:Int)) then(ag D i).bind fun M=>J (F.length+([M.2]:gO).length<=1000000000)<|J (aa .i64 (i+1))<|some (.inl (D,(i+1),(F++([M.2]:gO)),())) else some (.inr (F,()))
def Kz (l:b9):Option gO:=(ab J' (l,0,[],())).bind fun(D,_)=>some D
def KA:Lp (gO×gO×eD) jq:=fun(D,F,i,_)=>bif decide (i<(D.length:Int)) then(ag D i).bind fun M=>(ag F i).bind fun N=>(oZ M N).bind fun ints=>bif !ints then some (.inr (.inr (()))) else J (aa .i64 (i+1))<|some (.inl (D,F,(i+1),())) else some (.inr (.inl (())))
def Ll (a:gO) (b:gO):bz:=bif !decide ((a.length:Int)=(b.length:Int)) then some false else(ab KA (a,b,0,())).bind fun o=>match o with|.inl (_)=>some true|.inr (_)=>some false
def FK (f:kL):Option kL:=some f
def CZ:Lp (cS×b9×dq×eD) jq:=fun(U,M,N,D,_)=>bif decide (D<(M.length:Int)) then(ag N D).bind fun Y=>(fg U Y).bind fun O=>(ag N D).bind fun Z=>(FK Z).bind fun of=>(ag M D).bind fun F=>bif !((decide (of.1=F.1.1)&&(decide (of.2.1=F.1.2.1)&&(decide (of.2.2.1=F.1.2.2.1)&&(decide (of.2.2.2.1=F.1.2.2.2.1)&&decide (of.2.2.2.2=F.1.2.2.2.2)))))) then some (.inr (.inr (()))) else bif !O.2 then some (.inr (.inr (()))) else(ag M D).bind fun ah=>(oZ O.1 ah.2).bind fun ints=>bif !ints then some (.inr (.inr (()))) else J (aa .i64 (D+1))<|some (.inl (U,M,N,(D+1),())) else some (.inr (.inl (())))
def Jx (x:xj):bz:=(vJ x).bind fun read=>eO.bind fun M=>bif !M then eO.bind fun N=>some N else bif !read.2 then eO.bind fun O=>some O else(FR read.1.2.2.1 read.1.2.2.2).bind fun new=>(zF read.1.1 read.1.2.1).bind fun o=>match o with|.inl (D,Y,_)=>((rJ new).bind fun lines=>(nN new).bind fun vars=>bif decide (400<vars) then some false else bif decide (8000<(lines.length:Int)) then some false else bif !decide (Y=0) then some false else(oR D).bind fun ah=>(nN new).bind fun an=>bif !decide (ah=an) then some false else(nK D).bind fun facts=>(yu D).bind fun F=>bif !decide ((facts.length:Int)=(lines.length:Int)) then some false else(nN new).bind fun ar=>bif !decide (F.1=ar) then some false else(Kz lines).bind fun clause=>(Ll F.2 clause).bind fun lists=>bif !lists then some false else(ab CZ (D,lines,facts,0,())).bind fun Z=>match Z with|.inl (_)=>some true|.inr (_)=>some false)|.inr (J,_)=>(rJ new).bind fun U=>(nN new).bind fun av=>bif decide (400<av) then some (decide (J=2)) else bif decide (8000<(U.length:Int)) then some (decide (J=2)) else some false
theorem anz {V R α σ:Type} {f:V->Option (V⊕R)} (l:List α) (g:σ->α->σ) (st:Nat->σ->V) (a:σ->R)
  (h1: ∀k (h:k<l.length) s,f (st k s)=some (.inl (st (k+1) (g s l[k]))))
  (D: ∀s,f (st l.length s)=some (.inr (a s))) (s:σ):ab f (st 0 s)=some (a (l.foldl g s)):=by
 have:=YS l (fun _=>true) g st a (a s) (by grind) (by simp) D s
 grind
theorem Xb (v w:cP) (N:v.2=[]\/preB v.2=true) (hw:w.2=[]\/preB w.2=true) (O:v.2.length<=20000) (lw:w.2.length<=20000):tA (bX v) (bX w)=some (eJ v w):=by
 have hp: ∀u:cP,u.2=[]\/preB u.2=true-> ∀p∈(bX u).2.2.2,gr p=true:=by
  intro u hu p hp;unfold bX at hp;simp only[] at hp;by_cases e:u.2=[]
  · grind
  · rw[if_neg e] at hp;rcases hu with hu |hu
    · grind
    · exact R5 hu p hp
 have J: ∀u:cP,u.2.length<=20000->(bX u).2.2.2.length<=20001:=by
  intro u hu;unfold bX;simp only[];by_cases e:u.2=[]
  · grind
  · rw[if_neg e];have:=(mA 46 u.2).2;omega
 rw[WB (bX v) (bX w) (hp v N) (hp w hw) (J v O) (J w lw)];unfold bX eJ iZ;simp only[];by_cases e:cg aP [v.1.1,v.1.2.1,v.1.2.2] [w.1.1,w.1.2.1,w.1.2.2]=0
 · rw[if_pos e,if_pos e];by_cases D:v.2=[]
   · rw[if_pos D,if_pos rfl];by_cases F:w.2=[]
     · grind
     · rw[if_neg F,if_neg (mE _ _),if_neg (by rw[D];exact fun g=>F g.symm),if_pos D]
   · rw[if_neg D,if_neg (mE _ _)];by_cases F:w.2=[]
     · grind
     · rw[if_neg F,if_neg (mE _ _)];by_cases M:v.2=w.2
       · simp[M,QX]
       · grind
 · grind
theorem aqV (c:cO) (h:fP c.2) (D:c.1=6\/c.1=7):Mg c.1 (bX c.2)=some (bX (ov c)):=by
 obtain⟨⟨J,a2⟩,⟨M,N⟩,c1,c2⟩:=h.num;have F:bX (ov c)=((ov c).1.1,(ov c).1.2.1,(ov c).1.2.2,[]):=by unfold bX;rw[if_pos (Ms c)]
 rw[F];unfold Mg bX;simp only[];rcases D with e |e
 · simp (disch:=omega) only[K0,ov]
 · simp (disch:=omega) only[K0];simp[ov];by_cases O:0<c.2.1.1
   · simp (disch:=omega) only[K0]
   · simp (disch:=omega) only[K0];by_cases U:0<c.2.1.2.1
     · grind
     · grind
theorem anI (c:cO) (hc:se c) (v:cP) (J:fP v):Lt (fJ c) (bX v)=some (qI c v):=by
 unfold Lt qI fJ;simp only[];rw[Xb v c.2 J.pre hc.cD.pre J.2 hc.cD.2,ae2];by_cases M:c.1=0
 · grind
 rw[dN M,cond_false,if_neg M];by_cases N:c.1=1
 · grind
 rw[dN N,cond_false,if_neg N];by_cases O:c.1=2
 · grind
 rw[dN O,cond_false,if_neg O];by_cases U:c.1=3
 · grind
 rw[dN U,cond_false,if_neg U];by_cases Y:c.1=4
 · grind
 rw[dN Y,cond_false,if_neg Y];by_cases Z:c.1=5
 · grind
 rw[dN Z,cond_false,if_neg Z];by_cases D:c.1=8
 · grind
 rw[dN D,cond_false,if_neg D];by_cases F:0<=eJ v c.2
 · have ah:c.1=6\/c.1=7:=by
     rcases hc with hc |hc
     · rw[hc] at D;exact absurd rfl D
     · omega
   rw[dY F,cond_true,if_pos F,aqV c hc.cD ah];simp only[ae2];rw[Xb v _ J.pre (.inl (Ms c)) J.2 (by rw[Ms];exact ae6 _)];rfl
 · rw[dN F,cond_false,if_neg F]
theorem Y5 {α:Type} (p q:α->Bool): ∀(l:List α) (a b:Bool),l.foldl (fun n c=>(n.1&&p c,n.2||q c)) (a,b)=(a&&l.all p,b||l.any q)
 |[],a,b=>by simp (disch:=omega) only[K0,List.all_nil,List.any_nil];rfl
 |x::t,a,b=>by rw[List.foldl_cons,Y5 p q t,List.any_cons,List.all_cons,Bool.or_assoc,Bool.and_assoc]
theorem ap4 (c:cO) (i:Decidable (0<(((fJ c).2.2.2.2.length:Nat):Int))): @decide (0<(((fJ c).2.2.2.2.length:Nat):Int)) i= !decide (c.2.2=[]):=by
 have:(fJ c).2.2.2.2=if c.2.2=[] then[] else aB 46 c.2.2:=rfl
 by_cases e:c.2.2=[]
 · grind
 · have h:=av5.2 (mE 46 c.2.2);rw[dN e,dY (by grind)];rfl
theorem apn (r:List (List acR)) (j:Nat) (F:j<r.length) (a:List cO) (D:r[j]=a.map fJ) (hl:a.length<=1000) (hc: ∀c∈a,se c) (v:cP) (O:fP v) (b:Bool):
  ab Fc (r,(j:Int),true,b,0,(bX v).1,(bX v).2.1,(bX v).2.2.1,(bX v).2.2.2,())=some (r,(j:Int),a.all (fun c=>qI c v),b||a.any (AM v),(bX v).1,(bX v).2.1,(bX v).2.2.1,(bX v).2.2.2,()):=by
 have Y:((bX v).1,(bX v).2.1,(bX v).2.2.1,(bX v).2.2.2)=bX v:=rfl;have main:=anz (f:=Fc) a (fun(n) c=>(n.1&&qI c v,n.2||AM v c)) (fun k n=>(r,j,n.1,n.2,k,(bX v).1,(bX v).2.1,(bX v).2.2.1,(bX v).2.2.2,())) (fun n=>(r,j,n.1,n.2,(bX v).1,(bX v).2.1,(bX v).2.2.1,(bX v).2.2.2,())) ?_ ?_ (true,b)
 · exact main.trans (by rw[Y5,au1])
 · intro k hk n;obtain⟨n1,n2⟩:=n;have N:k<(a.map fJ).length:=by rw[ae4];exact hk
   have M:(a.map fJ)[k]=fJ a[k]:=au5 _;have hh:=anI a[k] (hc _ (ae3 hk)) v O;have i1:(fJ a[k]).2.1=(a[k]).2.1.1:=rfl;have i2:(fJ a[k]).2.2.1=(a[k]).2.1.2.1:=rfl;have i3:(fJ a[k]).2.2.2.1=(a[k]).2.1.2.2:=rfl;have U:(bX v).1=v.1.1:=rfl;have j2:(bX v).2.1=v.1.2.1:=rfl;have j3:(bX v).2.2.1=v.1.2.2:=rfl;have Z:=aH k;have ah: ∀{R:Type} (q:Option R),J (aa .i64 (k+1:Nat)) q=q:=fun q=>aw (by omega)
   simp only[Fc,au F,D,au N,M,ap4];unfold AM acv;rw[U];by_cases p0:(a[k]).2.2=[]
   · grind
   · grind
 · intro n;simp only[Fc,au F,D,ae4,as2,decide_false,cond_false]
theorem Ya (r:List (List cO)) (D:Mx r) (v:cP) (Y:fP v):FV (r.map fun a=>a.map fJ) (bX v)=some (gj r v):=by
 unfold FV;have h1:=D.one
 have F:decide ((((bX v).2.2.2).length:Int)=0)=decide (v.2=[]):=by
  have:(bX v).2.2.2=if v.2=[] then[] else aB 46 v.2:=rfl
  by_cases e:v.2=[]
  · grind
  · have h:=av5.2 (mE 46 v.2);rw[dN e,dN (by rw[this,if_neg e];omega)]
 have step: ∀k (hk:k<r.length),Lu ((r.map fun a=>a.map fJ),(k:Int),(bX v).1,(bX v).2.1,(bX v).2.2.1,(bX v).2.2.2,())=if oz v r[k]=true then some (.inr (.inr ())) else some (.inl ((r.map fun a=>a.map fJ),((k+1:Nat):Int),(bX v).1,(bX v).2.1,(bX v).2.2.1,(bX v).2.2.2,())):=by
  intro k hk;obtain⟨Z,a2,a3⟩:=D.alts _ (ae3 hk);have U:k<(r.map fun a=>a.map fJ).length:=by rw[ae4];exact hk
  have O:=apn (r.map fun a=>a.map fJ) k U r[k] (au5 _) (by omega) a3 v Y (decide (v.2=[]))
  have M:=aH k;have N: ∀{R:Type} (q:Option R),J (aa .i64 ((k+1:Nat):Int)) q=q:=fun q=>aw (show k+1<=4611686018427387904 by omega)
  simp only[Lu,ae4,dY (show((k:Nat):Int)<(r.length:Int) by omega),cond_true,F,O,ae2,M,N]
  unfold oz;rcases av8 ((r[k]).all fun c=>qI c v) with e |e
  · grind
  · rw[e,Bool.false_and];rfl
 rw[kj (kg r (fun a=> !oz v a) (fun k=>((r.map fun a=>a.map fJ),(k:Int),(bX v).1,(bX v).2.1,(bX v).2.2.1,(bX v).2.2.2,())) (.inl ()) (.inr ()) ?_ ?_ ?_) ?st]
 case st=>rfl
 · unfold gj;have e:(r.all fun a=> !oz v a)= !r.any (oz v):=by rw[List.all_eq_not_any_not];simp only[Bool.not_not]
   rw[e];rcases av8 (r.any (oz v)) with g |g
   · rw[g];rfl
   · rw[g];rfl
 · grind
 · grind
 · simp only[Lu,ae4,as2,decide_false,cond_false]
theorem tR {α β γ:Type} {e:Nat->α->List β} {g:β->γ}: ∀(l:List α) (k:Nat),(aN e l k).map g=aN (fun j x=>(e j x).map g) l k
 |[],k=>rfl
 |x::t,k=>by show(e k x++aN e t (k+1)).map g=(e k x).map g++aN _ t (k+1);rw[at4,tR t (k+1)]
theorem Zj {α β:Type} {e D:Nat->α->List β}: ∀(l:List α) (k:Nat),(∀j (h:j<l.length),(e (k+j) l[j]).Perm (D (k+j) l[j]))->(aN e l k).Perm (aN D l k)
 |[],k,_=>.refl _
 |x::t,k,h=>by have h0:(e k x).Perm (D k x):=h 0 (Nat.zero_lt_succ _);exact h0.append (Zj t (k+1) (fun j F=>by have:=h (j+1) (Nat.succ_lt_succ F);rw[show k+1+j=k+(j+1) by omega];exact this))
theorem XT {s:List UInt8} (h:iH s=true):s.length<=80:=by grind[iH]
theorem ab7 (A:List aq) (hA:bu A) (n:al) (D:iH n.2.1=true):F4 A n=some (eT A n):=by
 have hs:=hA.many;have Y:=XT D;unfold F4;rw[Qh _ (by omega),if_pos D,ae2]
 simp only[];rw[eX A (fun i y=>if uq n y=true then[(i:Int)] else[]) 1 0 (fun k acc=>(A,(dU n.2.1).map (fun a=>a.map fJ),true,(k:Int),n.1,n.2.1,n.2.2,acc,())) (fun acc=>(acc,())) (by grind) ?_ ?_ [] (ae6 _) ?st]
 case st=>rfl
 · rfl
 · intro k hk acc U;have he:=hA.cV _ (ae3 hk);have F:(A[k]).1.2.1.length<=20000:=by have:=he.short.2.1;omega
   have hp:qn (A[k]).1.2.1=some (bX (aR (A[k]).1.2.1),true):=by rw[y8 _ F,if_pos he.cD,SV he.cD]
   have O:=Ya _ (Rl D) _ (L8 he.cD F);have M:=aH k;have N: ∀{R:Type} (q:Option R),J (aa .i64 (k+1:Nat)) q=q:=fun q=>aw (by omega)
   simp only[RZ,dY (show(k)<(A.length:Int) by omega),cond_true,au hk,hp,ae2,O,M,N]
   unfold uq;by_cases e:(A[k]).1.1=n.1
   · rw[dY e,cond_true,au1];rcases av8 (gj (dU n.2.1) (aR (A[k]).1.2.1)) with g |g
     · rw[g,cond_true,ib (by omega),if_pos rfl]
     · grind
   · grind
 · simp[RZ]
theorem wC {A:List aq} {n:al} {i:Int}:i∈eT A n<-> ∃j,∃h:j<A.length,i=((j:Nat):Int)/\uq n A[j]=true:=by
 unfold eT;rw[dG];constructor
 · grind
 · grind
def fq (A:List aq) (n:al):List Int:=(eT A n).map (· +1)
theorem amZ {A:List aq} {n:al} {i:Int} (h:i∈fq A n):1<=i/\i<=(A.length:Int):=by obtain⟨j,D,rfl⟩:=au0.1 h;obtain⟨k,hk,rfl,_⟩:=wC.1 D;omega
theorem EY (A:List aq) (n:al):(fq A n).length<=A.length:=by unfold fq;rw[ae4];exact qC A n
theorem ao5 {R:Type} {f:Int×Int×List Int×Unit->Option ((Int×Int×List Int×Unit)⊕R)} (l:List Int) (g:Int->Int) (out:List Int->R)
  (h1: ∀k (h:k<l.length) (o:List Int),o.length=l.length->o[k]? =some l[k]->f ((l.length:Int),(k:Int),o,())=some (.inl ((l.length:Int),((k+1:Nat):Int),o.set k (g l[k]),())))
  (J: ∀o:List Int,f ((l.length:Int),(l.length:Int),o,())=some (.inr (out o))):ab f ((l.length:Int),0,l,())=some (out (l.map g)):=by
 have: ∀n k,l.length - k=n->k<=l.length->ab f (l.length,k,(l.take k).map g++l.drop k,())=some (out (l.map g)):=by
  intro n
  induction n with
  |zero=>
   intro k M hk;have e:k=l.length:=by omega
   subst e;rw[bk (J _),av3,at0,au3]
  |succ n O=>
   intro k M hk;have D:k<l.length:=by omega
   have hlen:((l.take k).map g).length=k:=by simp_all
   have F:((l.take k).map g++l.drop k)[k]? =some l[k]:=by simp_all
   rw[aZ (h1 k D _ (by rw[as0,au4];omega) F)]
   have N:((l.take k).map g++l.drop k).set k (g l[k])=(l.take (k+1)).map g++l.drop (k+1):=by rw[List.set_append_right _ _ (by omega),hlen,Nat.sub_self,at2 D,aw0 D,at4,at8];rfl
   grind
 exact this l.length 0 rfl (ae6 _)
theorem Yu (l:List Int) (Y:l.length<=1000000) (N: ∀x∈l,0<=x/\x<=1000000) {f:Int×Int×List Int×Unit->Option ((Int×Int×List Int×Unit)⊕(List Int×Unit))}
  (hf:f=I5\/f=Da):ab f ((l.length:Int),0,l,())=some (l.map (· +1),()):=by
 refine ao5 l (· +1) (fun o=>(o,())) ?_ ?_
 · intro k hk o Z O;have ah:=N _ (ae3 hk);have U:k<o.length:=by omega
   have D:o[k]=l[k]:=by grind
   have F:=aH k;have M: ∀{R:Type} (q:Option R),J (aa .i64 (k+1:Nat)) q=q:=fun q=>aw (by omega)
   rcases hf with rfl |rfl
   · simp (disch:=omega) only[K0,I5,D,F,M,Da]
   · simp (disch:=omega) only[K0,Da,D,F,M]
 · intro o;rcases hf with rfl |rfl
   · simp[I5]
   · simp[Da]
theorem Lz (A:List aq) (hA:A.length<=360) (n:al): ∀x∈eT A n,0<=x/\x<=1000000:=by intro x D;obtain⟨j,F,rfl,_⟩:=wC.1 D;omega
theorem Yt (A:List aq) (hA:bu A) (c:pt) (hc:c.1=A.map bN) (n:al) (D:iH n.2.1=true):C' c (aO n)=some (fq A n):=by have hs:=hA.many;have F:=qC A n;unfold C';rw[hc,T8 A hA n D,ae2,Yu (eT A n) (by omega) (Lz A hs n) (.inl rfl)];rfl
theorem aqc (A:List aq) (hA:bu A) (c:pt) (hc:c.1=A.map bN) (n:al) (D:iH n.2.1=true):JJ c (aO n)=some (fq A n):=by have hs:=hA.many;have F:=qC A n;unfold JJ;rw[hc,T8 A hA n D,ae2,Yu (eT A n) (by omega) (Lz A hs n) (.inr rfl)];rfl
theorem aot (A:List aq) (hA:bu A) (c:acS) (hc:c.1=A) (n:al) (M:iH n.2.1=true):rK c n=some (fq A n):=by
 have hs:=hA.many;have O:=qC A n;unfold rK;rw[hc,ab7 A hA n M,ae2];have main:=qt (f:=JL) (eT A n) (fun x=>x+1) (fun k acc=>(eT A n,k,acc,())) (fun acc=>(acc,())) ?_ ?_
 · rw[kj main ?st]
   case st=>rfl
   rfl
 · intro k hk acc N;have U:=Lz A hs n _ (ae3 hk);have D:=aH k;have F: ∀{R:Type} (q:Option R),J (aa .i64 (k+1:Nat)) q=q:=fun q=>aw (by omega)
   simp (disch:=omega) only[K0,JL,D,F]
 · simp[JL]
theorem FO (A:List aq) (hA:bu A) (R:List al) (hR:bM R):oR (bn A R)=some ((A.length+(ax A R).length:Nat):Int)/\nN (ij A R)=some ((A.length+(ax A R).length:Nat):Int):=by
 have hs:=hA.many;have D:=Ar A hA R hR;refine⟨?_,?_⟩
 · unfold oR bn;show J (aa .i64 (((A.map bN).length)+((ax A R).length))) _=_;rw[ae4,ai (bd (by omega))]
   rfl
 · unfold nN ij;show J (aa .i64 (A.length+((ax A R).length))) _=_;rw[ai (bd (by omega))];rfl
theorem apE (x y:aY):pG x y=MJ (aP x.1 y.1) (aP x.2.1 y.2.1) (aP x.2.2.1 y.2.2.1) (aP x.2.2.2.1 y.2.2.2.1) (aP x.2.2.2.2 y.2.2.2.2):=rfl
theorem Zo (a b:aY):K1 a b=some (decide (pG a b<0)):=by
 unfold K1;have main:=Aj (f:=Kf) [a.1,a.2.1,a.2.2.1,a.2.2.2.1,a.2.2.2.2] [b.1,b.2.1,b.2.2.1,b.2.2.2.1,b.2.2.2.2] aP (fun k=>([a.1,a.2.1,a.2.2.1,a.2.2.2.1,a.2.2.2.2],[b.1,b.2.1,b.2.2.1,b.2.2.2.1,b.2.2.2.2],(k:Int),())) (.inl ()) (fun q=>.inr (decide (q<0),())) ?_ ?_
 · rw[kj main ?st]
   case st=>rfl
   have e:cg aP [a.1,a.2.1,a.2.2.1,a.2.2.2.1,a.2.2.2.2] [b.1,b.2.1,b.2.2.1,b.2.2.2.1,b.2.2.2.2]=pG a b:=by grind[MJ,apE,cg]
   grind
 · intro k hk D;generalize F:[a.1,a.2.1,a.2.2.1,a.2.2.2.1,a.2.2.2.2]=l at hk;generalize hm:[b.1,b.2.1,b.2.2.1,b.2.2.2.1,b.2.2.2.2]=m at D;have J:l.length=5:=by rw[<-F];rfl
   simp only[Kf,dY (show((k:Nat):Int)<5 by omega),cond_true,au hk,au D,aw (show k+1<=4611686018427387904 by omega),aH]
   by_cases e:l[k]=m[k]
   · grind[aP]
   · rw[dN e,as4,cond_true,if_neg (fun g=>e (gZ.1 g))];congr 4;unfold aP;by_cases g:l[k]<m[k]
     · grind
     · rw[dN g,if_neg g];split<;>rfl
 · grind[Kf]
abbrev bT:=aY×List Int
def jd (x y:bT):Bool:= !decide (pG y.1 x.1<0)
theorem aqB (a b:bT):(jd a b||jd b a)=true:=by
 unfold jd;have:=Ap.neg a.1 b.1;by_cases e:pG b.1 a.1<0
 · grind
 · grind
theorem arB (a b c:bT) (h1:jd a b=true) (h2:jd b c=true):jd a c=true:=by
 unfold jd at h1 h2⊢;rw[Bool.not_eq_true',decide_eq_false_iff_not] at h1 h2⊢;have D:=Ap.neg a.1 b.1;have F:=Ap.neg b.1 c.1;have J:=Ap.neg a.1 c.1;have:=Ap.tr a.1 b.1 c.1 (by omega) (by omega)
 omega
theorem Z9 (l:List bT):List.merge l [] jd=l:=by simp
theorem Z' (l:List bT):List.merge [] l jd=l:=by simp
theorem arz (rc:List bT->Option (List bT)) (x y:List bT) (ah:x.length+y.length<=999999999): ∀(n i j:Nat) (acc:List bT),(x.length - i)+(y.length - j)=n->i<=x.length->j<=y.length->acc.length<=i+j->
  ab (oT rc) (x,y,(i:Int),(j:Int),acc,())=some (acc++List.merge (x.drop i) (y.drop j) jd,()):=by
 intro n
 induction n with
 |zero=>
  intro i j acc hn N O ha;have F:i=x.length:=by omega
  have M:j=y.length:=by omega
  subst F;subst M;refine bk ?_;simp only[oT,as2,decide_false,cond_false,av3];rw[show List.merge ([]:List bT) [] jd=[] by rw[List.merge],at0]
 |succ n D=>
  intro i j acc hn N O ha;have ci:=aH i;have U:=aH j;have Y: ∀{R:Type} (q:Option R),J (aa .i64 ((i+1:Nat):Int)) q=q:=fun q=>aw (show i+1<=4611686018427387904 by omega)
  have Z: ∀{R:Type} (q:Option R),J (aa .i64 ((j+1:Nat):Int)) q=q:=fun q=>aw (show j+1<=4611686018427387904 by omega)
  by_cases h1:i<x.length
  · by_cases h2:j<y.length
    · rw[at2 h1,at2 h2,List.cons_merge_cons];rcases av8 (decide (pG (y[j]).1 (x[i]).1<0)) with g |g
      · have hs:oT rc (x,y,(i:Int),(j:Int),acc,())=some (.inl (x,y,(i:Int),((j+1:Nat):Int),acc++[y[j]],())):=by
          simp only[oT,dY (show((i:Nat):Int)<(x.length:Int) by omega),dN (show¬((j:Nat):Int)=(y.length:Int) by omega),cond_true,cond_false,au h1,au h2,Zo,ae2,g,ae8,ib (x:=y[j]) (show acc.length<=999999999 by omega),U,Z]
        rw[aZ hs,D i (j+1) _ (by omega) N h2 (by rw[as0,au7];omega),if_neg (show¬jd x[i] y[j]=true by unfold jd;rw[g];decide),<-at2 h1,at8];rfl
      · have hs:oT rc (x,y,(i:Int),(j:Int),acc,())=some (.inl (x,y,((i+1:Nat):Int),(j:Int),acc++[x[i]],())):=by
          simp (disch:=omega) only[K0,oT,Zo,g,ci,Y]
        rw[aZ hs,D (i+1) j _ (by omega) h1 O (by rw[as0,au7];omega),if_pos (show jd x[i] y[j]=true by unfold jd;rw[g];rfl),<-at2 h2,at8];rfl
    · have M:j=y.length:=by omega
      have hs:oT rc (x,y,(i:Int),(j:Int),acc,())=some (.inl (x,y,((i+1:Nat):Int),(j:Int),acc++[x[i]],())):=by simp only[oT,dY (show((i:Nat):Int)<(x.length:Int) by omega),dY (show((j:Nat):Int)=(y.length:Int) by omega),cond_true,au h1,ib (x:=x[i]) (show acc.length<=999999999 by omega),ci,Y]
      rw[aZ hs,D (i+1) j _ (by omega) h1 O (by rw[as0,au7];omega),at2 h1,M,av3,at8,Z9,Z9];rfl
  · have F:i=x.length:=by omega
    have h2:j<y.length:=by omega
    have hs:oT rc (x,y,(i:Int),(j:Int),acc,())=some (.inl (x,y,(i:Int),((j+1:Nat):Int),acc++[y[j]],())):=by simp only[oT,dN (show¬((i:Nat):Int)<(x.length:Int) by omega),dY (show((j:Nat):Int)<(y.length:Int) by omega),dN (show¬((j:Nat):Int)=(y.length:Int) by omega),cond_true,cond_false,au h2,ib (x:=y[j]) (show acc.length<=999999999 by omega),U,Z]
    rw[aZ hs,D i (j+1) _ (by omega) N h2 (by rw[as0,au7];omega),at2 h2,F,av3,at8,Z',Z'];rfl
theorem alr (f g:List bT×Unit->Option (List bT)) (h: ∀x,br (f x) (g x)) (x:List bT×Unit):br (tw f x) (tw g x):=by unfold tw Ke;refine br.cond (br.refl _) (br.J (br.J (br.bind (h _) fun a=>br.J (br.J (br.bind (h _) fun b=>br.bind (br.loop ?_ _) fun c=>br.refl _)))));rfl
theorem alv: ∀(n:Nat) (x:List bT),x.length<=n->x.length<=999999999-> ∃o,fa tw (n+1) (x,())=some o/\o.Perm x/\o.Pairwise (fun a b=>jd a b=true):=by
 intro n
 induction n with
 |zero=>
  intro x Y _;have:x=[]:=List.length_eq_zero_iff.1 (by omega)
  subst this;exact⟨[],rfl,.refl _,List.Pairwise.nil⟩
 |succ n M=>
  intro x Y hx;show∃o,Ke (fun a0=>fa tw (n+1) (a0,())) x=some o/\_;unfold Ke;by_cases h2:x.length<2
  · rw[dY (show((x.length:Nat):Int)<2 by omega),cond_true]
    refine⟨x,rfl,.refl _,?_⟩
    match x,h2 with
    |[],_=>exact List.Pairwise.nil
    |[a],_=>exact List.pairwise_singleton _ _
  · rw[dN (show¬((x.length:Nat):Int)<2 by omega),cond_false]
    have hm:IntKind.wrap .i64 ((x.length:Int).tdiv 2)=((x.length/2:Nat):Int):=by
     rw[Int.tdiv_eq_ediv_of_nonneg (by omega),show((x.length:Nat):Int)/2=((x.length/2:Nat):Int) by omega]
     exact wrap_i64 (by omega)
    have t0:(0:Int).toNat=0:=rfl;rw[hm,ai (by decide),ai (by omega)]
    simp only[as1,t0,av0,au3];obtain⟨D,N,a2,a3⟩:=M (x.take (x.length/2)) (by rw[at6];omega) (by rw[at6];omega)
    obtain⟨F,O,J,U⟩:=M (x.drop (x.length/2)) (by rw[au4];omega) (by rw[au4];omega)
    have Z:=a2.length_eq;have l2:=J.length_eq;rw[at6] at Z;rw[au4] at l2;rw[N,ae2,ai (by decide),ai (by omega),O,ae2]
    have e:=arz (fun a0=>fa tw (n+1) (a0,())) D F (by omega) _ 0 0 [] rfl (ae6 _) (ae6 _) (ae6 _)
    rw[av0,av0,List.nil_append] at e;refine⟨List.merge D F jd,?_,?_,?_⟩
    · rw[kj e ?st]
      case st=>rfl
      rfl
    · have p:=(List.merge_perm_append (le:=jd) (xs:=D) (ys:=F)).trans (a2.append J);rw[au6] at p;exact p
    · exact List.pairwise_merge arB aqB D F a3 U
theorem ar1 (x:List bT) (F:x.length<=999999999): ∃o,QN x=some o/\o.Perm x/\tV (o.map (·.1)):=by obtain⟨o,J,M,N⟩:=alv x.length x (ae5 _) F;refine⟨o,Tk (fun f g D x r=>alr f g (fun x r=>D x r) x r) J,M,?_⟩;unfold tV;rw[List.pairwise_map];refine N.imp fun{a b} h=>?_;unfold jd at h;rw[Bool.not_eq_true',decide_eq_false_iff_not] at h;exact h
theorem tV.unique {l m:List aY} (h1:tV l) (h2:tV m) (hp:l.Perm m):l=m:=P7 XG (by simp) hp h1 h2
theorem al1 {l m:List Int} (h: ∀z,z∈l<->z∈m):bV l=bV m:=Mo (tC l).1 fun z=>((tC l).2 z).trans (h z)
theorem oO.nodup {l:List Int} (h:oO l):l.Nodup:=h.imp fun{a b} q e=>by rw[e,Ak.self] at q;exact absurd q (by simp)
theorem L0 (l:List Int):(bV l).length<=l.length:=KV (tC l).1.nodup fun z D=>((tC l).2 z).1 D
def dV (l:List Int):Prop:= ∀x∈l,-1000000<=x/\x<=1000000
theorem aqJ (c:List Int) (hc:c.length<=1000000) (x:Int):FT c x=some (c.any fun y=>decide (y=x)):=by
 unfold FT;have main:=tI (f:=E5) c (fun y=>decide (y=x)) (fun k=>(c,x,k,())) (fun _=>.inr ()) (.inl ()) ?_ ?_ ?_
 · rw[kj main ?st]
   case st=>rfl
   cases h:c.find? (fun y=>decide (y=x)) with
   |none=>grind
   |some y=>grind
 · intro k hk hp;simp (disch:=omega) only[K0,E5,hp]
 · intro k hk hp;simp (disch:=omega) only[K0,E5,hp]
 · simp[E5]
theorem aaY (x:Int) (D: -1000000<=x/\x<=1000000):wA x=some (x.natAbs:Int):=by
 unfold wA;by_cases h:x<0
 · simp (disch:=omega) only[K0];grind
 · grind
theorem beforeL_eq (a b:Int) (D: -1000000<=a/\a<=1000000) (F: -1000000<=b/\b<=1000000):EB a b=some (ot a b):=by
 unfold EB ot;simp only[aaY a D,aaY b F];by_cases h:a.natAbs<b.natAbs
 · grind
 · simp (disch:=omega) only[K0];by_cases e:a.natAbs=b.natAbs
   · grind
   · grind
theorem aro (o out:List Int) (i:Nat) (O:i<o.length) (Z:dV o) (ah:dV out) (hl:out.length<=1000000): ∀(k:Nat),k<=out.length->(∀j (h:j<out.length),k<=j->kA o[i] out[j]<0)->
  ∃j,j<=out.length/\ab zu (out,(i:Int),(k:Int),o,())=some (out,(i:Int),(j:Int),o,())/\ab tx (o,out,(i:Int),(k:Int),())=some (o,out,(i:Int),(j:Int),())/\
   (∀t (h:t<out.length),j<=t->kA o[i] out[t]<0)/\(∀h:0<j,∀h2:j - 1<out.length,¬kA o[i] out[j - 1]<0):=by
 intro k
 induction k with
 |zero=>
  intro hk M;refine⟨0,ae6 _,bk ?_,bk ?_,M,fun h=>absurd h (by omega)⟩
  · simp only[zu,dN (show¬(0:Int)<((0:Nat):Int) by decide),cond_false]
  · simp only[tx,dN (show¬(0:Int)<((0:Nat):Int) by decide),cond_false]
 |succ k ih=>
  intro hk M;have U:k<out.length:=hk;have F:((k+1:Nat):Int) - 1=(k:Int):=by omega
  have N: ∀{R:Type} (q:Option R),J (aa .i64 ((k:Nat):Int)) q=q:=fun q=>aw (show k<=4611686018427387904 by omega)
  have D:=beforeL_eq o[i] out[k] (Z _ (ae3 O)) (ah _ (ae3 U));rcases av8 (ot o[i] out[k]) with g |g
  · rw[g] at D;have s1:zu (out,(i:Int),((k+1:Nat):Int),o,())=some (.inl (out,(i:Int),(k:Int),o,())):=by simp (disch:=omega) only[K0,zu,F,N,D,tx]
    have s2:tx (o,out,(i:Int),((k+1:Nat):Int),())=some (.inl (o,out,(i:Int),(k:Int),())):=by simp (disch:=omega) only[K0,tx,F,N,D]
    rw[aZ s1,aZ s2];refine ih (by omega) fun j Y an=>?_
    by_cases q:j=k
    · subst q;exact Al.1 g
    · exact M j Y (by omega)
  · rw[g] at D;refine⟨k+1,hk,bk ?_,bk ?_,M,fun _ _ q=>?_⟩
    · simp (disch:=omega) only[K0,zu,F,N,D,tx]
    · simp only[tx,dY (show(0:Int)<((k+1:Nat):Int) by omega),cond_true,au O,F,N,au U,D,ae2,cond_false]
    · have:=Al.2 q;rw[show ot o[i] out[k]=true from this] at g;cases g
theorem asK {x:Int} {out:List Int} {j:Nat} (hs:oO out) (O:x∉out) (U:j<=out.length) (h1: ∀t (h:t<out.length),j<=t->kA x out[t]<0) (h2: ∀h:0<j,∀h2:j - 1<out.length,¬kA x out[j - 1]<0):
  oO (out.take j++[x]++out.drop j)/\ ∀z,z∈out.take j++[x]++out.drop j<->z=x\/z∈out:=by
 constructor
 · unfold oO;rw[List.pairwise_append,List.pairwise_append];have hp:=hs;unfold oO at hp;rw[<-au6 j out,List.pairwise_append] at hp;obtain⟨p1,p2,p3⟩:=hp
   have Y: ∀a∈out.take j,kA a x<0:=by
    intro a J;obtain⟨t,F,rfl⟩:=au8 J;rw[at6] at F;rw[List.getElem_take];have N:0<j:=by omega
    have D:j - 1<out.length:=by omega
    have q:=h2 N D;have n1:=Ak.neg x out[j - 1];have q2: ¬kA x out[j - 1]=0:=fun e=>O (by rw[YU e];exact ae3 D)
    by_cases e:t=j - 1
    · grind
    · have:kA out[t] out[j - 1]<0:=ax7.1 hs t (j - 1) (by omega) D (by omega)
      exact Ak.xN this (by omega)
   have Z: ∀b∈out.drop j,kA x b<0:=by intro b M;obtain⟨t,F,rfl⟩:=au8 M;rw[au4] at F;rw[List.getElem_drop];exact h1 (j+t) (by omega) (by omega)
   grind
 · intro z;rw[as3,as3,at5]
   conv=>rhs;rw[<-au6 j out,as3]
   grind
def MQ (l:List Int) (k:Nat) (out:List Int):Prop:=oO out/\ ∀z,z∈out<->z∈l.take k
theorem anr (l:List Int) (U:dV l) (hn:l.length<=1000000) (k:Nat) (hk:k<l.length) (out:List Int) (h:MQ l k out):
  ∃O,MQ l (k+1) O/\zt (out,(k:Int),l,())=some (.inl (O,((k+1:Nat):Int),l,()))/\y6 (l,out,(k:Int),())=some (.inl (l,O,((k+1:Nat):Int),())):=by
 obtain⟨h1,h2⟩:=h;have ah:dV out:=fun x N=>U x (List.mem_of_mem_take ((h2 x).1 N));have hlen:out.length<=k:=by have:=KV h1.nodup (fun z hz=>(h2 z).1 hz);rw[at6] at this;omega
 have c1:(0:Int)<=(k:Int)/\(k:Int)<(l.length:Int):=by omega
 have F:=aH k;have M: ∀{R:Type} (q:Option R),J (aa .i64 ((k+1:Nat):Int)) q=q:=fun q=>aw (show k+1<=4611686018427387904 by omega)
 have D:=aqJ out (by omega) l[k]
 have Y: ∀z,z∈l.take (k+1)<->z=l[k]\/z∈l.take k:=by intro z;rw[aw0 hk,as3,at5];exact Or.comm
 rcases av8 (out.any fun y=>decide (y=l[k])) with g |g
 · rw[g] at D;refine⟨out,⟨h1,fun z=>?_⟩,?_,?_⟩
   · rw[h2,Y];obtain⟨y,hy,e⟩:=ax9.1 g;have e:=of_decide_eq_true e;exact⟨.inr,fun q=>q.elim (fun q=>by rw[q,<-e];exact(h2 y).1 hy) id⟩
   · simp only[zt,dY (show((k:Nat):Int)<(l.length:Int) by omega),cond_true,ai c1,iN hk,D,ae2,F,M]
   · simp only[y6,dY (show((k:Nat):Int)<(l.length:Int) by omega),cond_true,au hk,D,ae2,F,M]
 · rw[g] at D;obtain⟨j,hj,e1,e2,e3,e4⟩:=aro l out k hk U ah (by omega) out.length (ae5 _) (fun t h q=>by omega)
   have N:l[k]∉out:=fun q=>by have:=aA1.1 g _ q;exact this (decide_eq_true rfl)
   obtain⟨i1,i2⟩:=asK h1 N hj e3 e4;have t0:(0:Int).toNat=0:=rfl;have k1:(0:Int)<=0/\(0:Int)<=(j:Int)/\(j:Int)<=(out.length:Int):=by omega
   have k2:(0:Int)<=(j:Int)/\(j:Int)<=(out.length:Int)/\(out.length:Int)<=(out.length:Int):=by omega
   have t1:(out.take j).length=j:=by grind
   have t2:(out.drop j).length=out.length - j:=by grind
   have k3:(out.take j).length<=1000000000:=by omega
   have Z:(out.take j).length+([l[k]]:List Int).length<=1000000000:=by rw[t1,au7];omega
   have k5:(out.take j++[l[k]]).length+(out.drop j).length<=1000000000:=by rw[as0,t1,t2,au7];omega
   refine⟨out.take j++[l[k]]++out.drop j,⟨i1,fun z=>?_⟩,?_,?_⟩
   · rw[i2,Y,h2]
   · simp only[zt,dY (show((k:Nat):Int)<(l.length:Int) by omega),cond_true,ai c1,iN hk,D,ae2,cond_false,e1,ai k1,ai k2,F,M]
     simp only[as1,t0,av0,au3,ai k3,ai Z,ai k5]
   · simp only[y6,dY (show((k:Nat):Int)<(l.length:Int) by omega),cond_true,au hk,D,ae2,cond_false,e2,ai k1,ai k2,F,M,as1,t0,av0,au3,ai k3,ai Z,ai k5]
theorem YP (l:List Int) (D:dV l) (F:l.length<=1000000): ∀(n k:Nat) (out:List Int),l.length - k=n->k<=l.length->MQ l k out->
  ab zt (out,(k:Int),l,())=some (bV l,l,())/\ab y6 (l,out,(k:Int),())=some (bV l,()):=by
 intro n
 induction n with
 |zero=>
  intro k out J hk h;have e:k=l.length:=by omega
  subst e;have:out=bV l:=Mo h.1 fun z=>by rw[h.2,au3]
  subst this;refine⟨bk ?_,bk ?_⟩
  · simp[zt]
  · simp[y6]
 |succ n M=>
  intro k out J hk h;obtain⟨N,h',s1,s2⟩:=anr l D F k (by omega) out h
  rw[aZ s1,aZ s2];exact M (k+1) N (by omega) (by omega) h'
theorem acE (l:List Int):MQ l 0 []:=⟨List.Pairwise.nil,fun z=>by rw[List.take_zero]⟩
theorem norm_eq (l:List Int) (D:dV l) (F:l.length<=1000000):kY l=some (bV l,l):=by
 unfold kY;rw[kj (YP l D F l.length 0 [] rfl (ae6 _) (acE l)).1 ?st]
 case st=>rfl
 rfl
theorem Z1 (l:List Int) (D:dV l) (F:l.length<=1000000):EA l=some (bV l):=by
 unfold EA;rw[kj (YP l D F l.length 0 [] rfl (ae6 _) (acE l)).2 ?st]
 case st=>rfl
 rfl
def cN (n:Nat) (T:bf) (w:Want):Int:=if bG T (fun x=>decide (x=w))<0 then 0 else(n:Int)+bG T (fun x=>decide (x=w))+1
theorem Et (n:Nat) (T:bf) (w:Want):0<=cN n T w/\cN n T w<=(n:Int)+(T.length:Int):=by
 unfold cN;rcases kX T (fun x=>decide (x=w)) with⟨_,q⟩ |⟨j,D,_,q,_,_⟩
 · omega
 · omega
theorem SX (A:List aq) (R:List al) (T:bf) (hA:A.length<=360) (hT:T.length<=60000) (w:Want):mz (A,R,T) w=some (cN A.length T w):=by
 unfold mz;have main:=iT (f:=DE) T (fun x=>decide (x=w)) (fun k=>(k,A,R,T,w.1,w.2,())) (fun k=>.inr (A.length+k+1,())) (.inl ()) ?_ ?_ ?_
 · rw[kj main ?st]
   case st=>rfl
   unfold cN;rcases kX T (fun x=>decide (x=w)) with⟨_,q⟩ |⟨j,F,f,q,_,_⟩
   · grind
   · grind
 · intro k hk hp;have hp:=of_decide_eq_false hp;have D:(decide ((T[k]).1=w.1)&&decide ((T[k]).2=w.2))=false:=by grind
   simp (disch:=omega) only[K0,DE,D]
 · intro k hk hp;have hp:=of_decide_eq_true hp;have D:(decide ((T[k]).1=w.1)&&decide ((T[k]).2=w.2))=true:=by rw[hp,dY rfl,dY rfl];rfl
   simp (disch:=omega) only[K0,DE,D]
 · simp[DE]
def lR (A:List aq) (T:bf) (F:Nat->aY) (J:Nat->Nat->aY) (D:List Int) (ns:List al):List bT:=
 aN (fun i (n:al)=>(F i,bV (D++fq A n))::aN (fun k f=>[(J i k,bV (D++[cN A.length T (n.1,f)]))]) n.2.2 0) ns 0
def mkNA (b:aY) (i:Nat):aY:=if b.1=4 then(b.1,b.2.1,(i:Int),b.2.2.2.1,b.2.2.2.2) else if b.1=7 then(b.1,b.2.1,b.2.2.1,(i:Int),b.2.2.2.2) else(b.1,(i:Int),b.2.2.1,b.2.2.2.1,b.2.2.2.2)
def mkNS (b:aY) (i:Nat):aY:=if b.1=4 then(b.1+1,b.2.1,(i:Int),b.2.2.2.1,b.2.2.2.2) else if b.1=7 then(b.1+1,b.2.1,b.2.2.1,(i:Int),b.2.2.2.2) else(b.1+1,(i:Int),b.2.2.1,b.2.2.2.1,b.2.2.2.2)
def mkNB (b:aY) (i k:Nat):aY:=if b.1=4 then((mkNS b i).1,(mkNS b i).2.1,(mkNS b i).2.2.1,(k:Int),(mkNS b i).2.2.2.2) else if b.1=7 then((mkNS b i).1,(mkNS b i).2.1,(mkNS b i).2.2.1,(mkNS b i).2.2.2.1,(k:Int)) else((mkNS b i).1,(mkNS b i).2.1,(k:Int),(mkNS b i).2.2.2.1,(mkNS b i).2.2.2.2)
abbrev abS:=List al×List Int×Int×Int×List aq×List al×bf×Int×Int×Int×Int×Int×Int×Int×Int×Int×Int×List bT×Unit
abbrev apY:=List al×List Int×Int×List aq×List al×bf×Int×Int×Int×Int×Int×List bT×Unit
theorem tP {a b:List Int} (D:dV a) (F:dV b):dV (a++b):=fun x J=>(as3.1 J).elim (D x) (F x)
theorem Fe (A:List aq) (hA:A.length<=360) (n:al):dV (fq A n):=fun x D=>by have:=amZ D;omega
theorem wj {x:Int} (h: -1000000<=x/\x<=1000000):dV [x]:=fun y D=>by rw[at5.1 D];exact h
theorem aqt (f:abS->Option (abS⊕apY)) (hf:f=yw\/f=yj) (A:List aq) (hA:A.length<=360) (R:List al) (T:bf) (hT:T.length<=60000) (ns:List al) (i:Nat) (M:i<ns.length) (hn:(ns[i]).2.2.length<=4)
  (D:List Int) (ha:dV D) (hl:D.length<=10) (b:aY) (acc:List bT) (O:acc.length<=990000000):
  ab f (ns,D,(i:Int),0,A,R,T,b.1,b.2.1,b.2.2.1,b.2.2.2.1,b.2.2.2.2,(mkNS b i).1,(mkNS b i).2.1,(mkNS b i).2.2.1,(mkNS b i).2.2.2.1,(mkNS b i).2.2.2.2,acc,())=
   some (ns,D,(i:Int),A,R,T,b.1,b.2.1,b.2.2.1,b.2.2.2.1,b.2.2.2.2,acc++aN (fun k f=>[(mkNB b i k,bV (D++[cN A.length T ((ns[i]).1,f)]))]) (ns[i]).2.2 0,()):=by
 refine eX (ns[i]).2.2 (fun k f=>[(mkNB b i k,bV (D++[cN A.length T ((ns[i]).1,f)]))]) 1 990000000 (fun k acc=>(ns,D,(i:Int),(k:Int),A,R,T,b.1,b.2.1,b.2.2.1,b.2.2.2.1,b.2.2.2.2,(mkNS b i).1,(mkNS b i).2.1,(mkNS b i).2.2.1,(mkNS b i).2.2.2.1,(mkNS b i).2.2.2.2,acc,())) (fun acc=>(ns,D,(i:Int),A,R,T,b.1,b.2.1,b.2.2.1,b.2.2.2.1,b.2.2.2.2,acc,())) (fun k hk=>ae5 _) ?_ ?_ acc O rfl
 · intro k hk acc O;have U:=aH k;have Y: ∀{R:Type} (q:Option R),J (aa .i64 ((k+1:Nat):Int)) q=q:=fun q=>aw (show k+1<=4611686018427387904 by omega)
   have hv:=SX A R T hA hT ((ns[i]).1,(ns[i]).2.2[k]);have hr:=Et A.length T ((ns[i]).1,(ns[i]).2.2[k]);have Z:=norm_eq (D++[cN A.length T ((ns[i]).1,(ns[i]).2.2[k])]) (tP ha (wj (by omega))) (by rw[as0,au7];omega)
   have k1:D.length<=1000000000:=by omega
   have k2: ∀y:Int,D.length+([y]:List Int).length<=1000000000:=fun y=>by rw[au7];omega
   have k3: ∀y:bT,acc.length+([y]:List bT).length<=1000000000:=fun y=>by rw[au7];omega
   unfold mkNB;rcases hf with rfl |rfl
   · simp only[yw,au M,dY (show((k:Nat):Int)<((ns[i]).2.2.length:Int) by omega),cond_true,au hk,hv,ae2,ai k1,ai (k2 _),Z,ai (k3 _),U,Y]
     grind
   · simp only[yj,au M,dY (show((k:Nat):Int)<((ns[i]).2.2.length:Int) by omega),cond_true,au hk,hv,ae2,ai k1,ai (k2 _),Z,ai (k3 _),U,Y]
     by_cases N:b.1=4
     · grind
     · rw[dN N,cond_false,if_neg N];by_cases F:b.1=7
       · rw[dY F,cond_true,if_pos F]
       · rw[dN F,cond_false,if_neg F]
 · intro acc;rcases hf with rfl |rfl
   · simp only[yw,au M,as2,decide_false,cond_false]
   · simp only[yj,au M,as2,decide_false,cond_false]
abbrev abR:=List al×List Int×Int×List aq×List al×bf×Int×Int×Int×Int×Int×List bT×Unit
theorem Xw (A:List aq) (T:bf) (J:Nat->aY) (M:Nat->Nat->aY) (D:List Int) (ns:List al) (h:bM ns): ∀i (F:i<ns.length),((J i,bV (D++fq A ns[i]))::aN (fun k f=>[(M i k,bV (D++[cN A.length T ((ns[i]).1,f)]))]) (ns[i]).2.2 0).length<=5:=by intro i F;have:=(h.dO _ (ae3 F)).2.2.1;rw[as5,rP];omega
theorem EL (A:List aq) (T:bf) (F:Nat->aY) (J:Nat->Nat->aY) (D:List Int) (ns:List al) (h:bM ns):(lR A T F J D ns).length<=40:=by
 have:=iU (e:=fun i n=>(F i,bV (D++fq A n))::aN (fun k f=>[(J i k,bV (D++[cN A.length T (n.1,f)]))]) n.2.2 0) (m:=5) ns 0 (fun j M=>by rw[Nat.zero_add];exact Xw A T F J D ns h j M)
 have h2:=h.many;show(aN _ ns 0).length<=40;omega
theorem Xx (f:abR->Option (abR⊕(List bT×Unit))) (hf:f=yv\/f=yi) (A:List aq) (hA:bu A) (R:List al) (T:bf) (hT:T.length<=60000) (ns:List al) (h:bM ns)
  (F:List Int) (ha:dV F) (hl:F.length<=10) (b:aY) (hb:0<=b.1/\b.1<=100) (acc:List bT) (av:acc.length<=980000000):
  ab f (ns,F,0,A,R,T,b.1,b.2.1,b.2.2.1,b.2.2.2.1,b.2.2.2.2,acc,())=some (acc++lR A T (mkNA b) (mkNB b) F ns,()):=by
 have hs:=hA.many;have hm:=h.many;refine eX ns (fun i (n:al)=>(mkNA b i,bV (F++fq A n))::aN (fun k f=>[(mkNB b i k,bV (F++[cN A.length T (n.1,f)]))]) n.2.2 0) 5 980000000 (fun k acc=>(ns,F,(k:Int),A,R,T,b.1,b.2.1,b.2.2.1,b.2.2.2.1,b.2.2.2.2,acc,())) (fun acc=>(acc,())) (Xw A T (mkNA b) (mkNB b) F ns h) ?_ ?_ acc av rfl
 · intro i U acc av;have az:=h.dO _ (ae3 U);have Y:=aH i;have Z: ∀{R:Type} (q:Option R),J (aa .i64 ((i+1:Nat):Int)) q=q:=fun q=>aw (show i+1<=4611686018427387904 by omega)
   have ar:=aot A hA (A,R,T) rfl ns[i] az.2.1;have a6:=EY A ns[i];have an:=norm_eq (F++fq A ns[i]) (tP ha (Fe A hs _)) (by rw[as0];omega)
   have k0:aa .i64 (b.1+1):=bd (by omega)
   have k1:F.length<=1000000000:=by omega
   have k2:F.length+(fq A ns[i]).length<=1000000000:=by omega
   have k3: ∀y:bT,acc.length+([y]:List bT).length<=1000000000:=fun y=>by rw[au7];omega
   have inner:=fun g hg=>aqt g hg A hs R T hT ns i U az.2.2.1 F ha hl b (acc++[(mkNA b i,bV (F++fq A ns[i]))]) (by rw[as0,au7];omega)
   have aE:acc++((mkNA b i,bV (F++fq A ns[i]))::aN (fun k f=>[(mkNB b i k,bV (F++[cN A.length T ((ns[i]).1,f)]))]) (ns[i]).2.2 0)=(acc++[(mkNA b i,bV (F++fq A ns[i]))])++aN (fun k f=>[(mkNB b i k,bV (F++[cN A.length T ((ns[i]).1,f)]))]) (ns[i]).2.2 0:=by grind
   rw[aE];generalize a1:aN (fun k f=>[(mkNB b i k,bV (F++[cN A.length T ((ns[i]).1,f)]))]) (ns[i]).2.2 0=cc at inner;rcases hf with rfl |rfl
   · have inner:=inner _ (.inl rfl);by_cases D:b.1=4
     · have M:mkNA b i=(b.1,b.2.1,(i:Int),b.2.2.2.1,b.2.2.2.2):=by unfold mkNA;rw[if_pos D]
       have O:mkNS b i=(b.1+1,b.2.1,(i:Int),b.2.2.2.1,b.2.2.2.2):=by unfold mkNS;rw[if_pos D]
       rw[O,M] at inner;rw[M];simp only[yv,dY (show((i:Nat):Int)<(ns.length:Int) by omega),cond_true,ai k0,dY D,au U,ar,ae2,ai k1,ai k2,an,ai (k3 _),inner,Y,Z]
     · by_cases N:b.1=7
       · have M:mkNA b i=(b.1,b.2.1,b.2.2.1,(i:Int),b.2.2.2.2):=by unfold mkNA;rw[if_neg D,if_pos N]
         have O:mkNS b i=(b.1+1,b.2.1,b.2.2.1,(i:Int),b.2.2.2.2):=by unfold mkNS;rw[if_neg D,if_pos N]
         rw[O,M] at inner;rw[M];simp only[yv,dY (show((i:Nat):Int)<(ns.length:Int) by omega),cond_true,cond_false,ai k0,dN D,dY N,au U,ar,ae2,ai k1,ai k2,an,ai (k3 _),inner,Y,Z]
       · have M:mkNA b i=(b.1,(i:Int),b.2.2.1,b.2.2.2.1,b.2.2.2.2):=by unfold mkNA;rw[if_neg D,if_neg N]
         have O:mkNS b i=(b.1+1,(i:Int),b.2.2.1,b.2.2.2.1,b.2.2.2.2):=by unfold mkNS;rw[if_neg D,if_neg N]
         rw[O,M] at inner;rw[M];simp only[yv,dY (show((i:Nat):Int)<(ns.length:Int) by omega),cond_true,cond_false,ai k0,dN D,dN N,au U,ar,ae2,ai k1,ai k2,an,ai (k3 _),inner,Y,Z]
   · have inner:=inner _ (.inr rfl);by_cases D:b.1=4
     · have M:mkNA b i=(b.1,b.2.1,(i:Int),b.2.2.2.1,b.2.2.2.2):=by unfold mkNA;rw[if_pos D]
       have O:mkNS b i=(b.1+1,b.2.1,(i:Int),b.2.2.2.1,b.2.2.2.2):=by unfold mkNS;rw[if_pos D]
       rw[O,M] at inner;rw[M];simp only[yi,dY (show((i:Nat):Int)<(ns.length:Int) by omega),cond_true,ai k0,dY D,au U,ar,ae2,ai k1,ai k2,an,ai (k3 _),inner,Y,Z]
     · by_cases N:b.1=7
       · have M:mkNA b i=(b.1,b.2.1,b.2.2.1,(i:Int),b.2.2.2.2):=by unfold mkNA;rw[if_neg D,if_pos N]
         have O:mkNS b i=(b.1+1,b.2.1,b.2.2.1,(i:Int),b.2.2.2.2):=by unfold mkNS;rw[if_neg D,if_pos N]
         rw[O,M] at inner;rw[M];simp only[yi,dY (show((i:Nat):Int)<(ns.length:Int) by omega),cond_true,cond_false,ai k0,dN D,dY N,au U,ar,ae2,ai k1,ai k2,an,ai (k3 _),inner,Y,Z]
       · have M:mkNA b i=(b.1,(i:Int),b.2.2.1,b.2.2.2.1,b.2.2.2.2):=by unfold mkNA;rw[if_neg D,if_neg N]
         have O:mkNS b i=(b.1+1,(i:Int),b.2.2.1,b.2.2.2.1,b.2.2.2.2):=by unfold mkNS;rw[if_neg D,if_neg N]
         rw[O,M] at inner;rw[M];simp only[yi,dY (show((i:Nat):Int)<(ns.length:Int) by omega),cond_true,cond_false,ai k0,dN D,dN N,au U,ar,ae2,ai k1,ai k2,an,ai (k3 _),inner,Y,Z]
 · intro acc;rcases hf with rfl |rfl
   · simp only[yv,as2,decide_false,cond_false]
   · simp only[yi,as2,decide_false,cond_false]
theorem Z2 (A:List aq) (hA:bu A) (R:List al) (T:bf) (hT:T.length<=60000) (ns:List al) (h:bM ns) (D:List Int) (F:dV D) (N:D.length<=10) (b:aY) (M:0<=b.1/\b.1<=100) (acc:List bT) (J:acc.length<=980000000):
  Dm (A,R,T) ns b D acc=some (acc++lR A T (mkNA b) (mkNB b) D ns):=by
 unfold Dm;rw[Xx _ (.inl rfl) A hA R T hT ns h D F N b M acc J];rfl
theorem ajI (A:List aq) (hA:bu A) (R:List al) (T:bf) (hT:T.length<=60000) (ns:List al) (h:bM ns):CM (A,R,T) ns (1,0,0,0,0) []=some (lR A T (mkNA (1,0,0,0,0)) (mkNB (1,0,0,0,0)) [] ns):=by
 unfold CM;rw[kj (Xx _ (.inr rfl) A hA R T hT ns h [] (fun x D=>(av6 D).elim) (ae6 _) (1,0,0,0,0) (by simp) [] (ae6 _)) ?st]
 case st=>rfl
 rfl
def neg (i:Int):Int:=0 - (i+1)
theorem o6 {x y:Int} (h: -1000000<=x/\x<=1000000) (h': -1000000<=y/\y<=1000000):dV [x,y]:=fun z D=>by grind
theorem Sv (e:bO) (s:List UInt8) (D:e.2.2.2.2.2.2.2.length<=1000):tM e s=some (bG e.2.2.2.2.2.2.2 fun f=>decide (f.1=s)):=by
 unfold tM bG;have main:=iT (f:=Ey) e.2.2.2.2.2.2.2 (fun f=>decide (f.1=s)) (fun k=>(s,k,e.1,e.2.1,e.2.2.1,e.2.2.2.1,e.2.2.2.2.1,e.2.2.2.2.2.1,e.2.2.2.2.2.2.1,e.2.2.2.2.2.2.2,())) (fun k=>.inr (k,())) (.inl ()) ?_ ?_ ?_
 · grind
 · intro k hk hp;have hp:=of_decide_eq_false hp;simp (disch:=omega) only[K0,Ey]
 · intro k hk hp;have hp:=of_decide_eq_true hp;simp (disch:=omega) only[K0,Ey]
 · simp[Ey]
def uu (A:List aq) (i:Nat) (s:List UInt8):List bT:=aN (fun k (y:aq)=>if decide (y.1.1=s)=true then[((3,(i:Int),((i+1+k:Nat):Int),0,0),bV [neg i,neg ((i+1+k:Nat):Int)])] else[]) (A.drop (i+1)) 0
def sj (A:List aq) (T:bf) (i t:Nat) (e:bO) (w:Want):List bT:=if decide (w.1=e.1)=true then(match eP e w.2 with
 |none=>[((6,(i:Int),(t:Int),0,0),[neg i,neg ((A.length:Int)+(t:Int))])]
 |some f=>lR A T (mkNA (7,(i:Int),(t:Int),0,0)) (mkNB (7,(i:Int),(t:Int),0,0)) [neg i,neg ((A.length:Int)+(t:Int))] f.2) else[]
def AR (A:List aq) (T:bf) (i:Nat) (e:bO):List bT:=aN (fun t w=>sj A T i t e w) T 0
def Gz (A:List aq) (i:Nat) (bs:List al):List bT:=aN (fun k (n:al)=>aN (fun _ y=>[((9,(i:Int),(k:Int),y,0),bV [neg i,neg y])]) (eT A n) 0) bs 0
def mR (A:List aq) (T:bf) (i:Nat) (e:bO):List bT:=((uu A i e.1++lR A T (mkNA (4,(i:Int),0,0,0)) (mkNB (4,(i:Int),0,0,0)) [neg i] e.2.2.2.2.2.2.1)++AR A T i e)++Gz A i e.2.2.2.2.2.1
theorem YW (A:List aq) (i:Nat) (s:List UInt8):(uu A i s).length<=A.length:=by
 have:=iU (e:=fun k y=>if decide (y.1.1=s)=true then[((((3,i,(i+1+k:Nat),0,0),bV [neg i,neg (i+1+k:Nat)])):bT)] else[]) (m:=1) (A.drop (i+1)) 0 (by grind)
 rw[au4] at this;show(aN _ _ 0).length<=_;omega
theorem Y' (A:List aq) (T:bf) (i t:Nat) (e:bO) (he:dD e) (w:Want):(sj A T i t e w).length<=40:=by
 unfold sj;split
 · cases h:eP e w.2 with
   |none=>grind
   |some f=>exact EL A T _ _ _ _ (he.qK (ES h))
 · grind
theorem Ye (A:List aq) (T:bf) (i:Nat) (e:bO) (he:dD e):(AR A T i e).length<=40*T.length:=iU T 0 (fun j D=>Y' A T i _ e he _)
theorem apO (A:List aq) (i:Nat) (bs:List al):(Gz A i bs).length<=A.length*bs.length:=iU bs 0 (fun j h=>by rw[rP];exact qC _ _)
theorem YV (A:List aq) (hA:A.length<=360) (T:bf) (i:Nat) (e:bO) (he:dD e):(mR A T i e).length<=1840+40*T.length:=by have h1:=YW A i e.1;have h2:=EL A T (mkNA (4,i,0,0,0)) (mkNB (4,i,0,0,0)) [neg i] _ he.rY;have D:=Ye A T i e he;have F:=apO A i e.2.2.2.2.2.1;have J:A.length*e.2.2.2.2.2.1.length<=360*4:=Nat.mul_le_mul hA he.sn;unfold mR;simp only[as0];omega
theorem acN {acc:List bT} {x:bT} (h:acc.length<=999999999) {R:Type} {q:Option R}:J (acc.length+([x]:List bT).length<=1000000000) q=q:=ib h
theorem asH (A:List aq) (hA:A.length<=360) (R:List al) (T:bf) (i:Nat) (Z:i<A.length) (e:bO) (acc:List bT) (D:acc.length<=970000000):
  ab Dx ((i:Int),(i:Int)+1,A,R,T,e.1,e.2.1,e.2.2.1,e.2.2.2.1,e.2.2.2.2.1,e.2.2.2.2.2.1,e.2.2.2.2.2.2.1,e.2.2.2.2.2.2.2,acc,())=
   some ((i:Int),A,R,T,e.1,e.2.1,e.2.2.1,e.2.2.2.1,e.2.2.2.2.1,e.2.2.2.2.2.1,e.2.2.2.2.2.2.1,e.2.2.2.2.2.2.2,acc++uu A i e.1,()):=by
 refine eX (A.drop (i+1)) (fun k (y:aq)=>if decide (y.1.1=e.1)=true then[((((3,(i:Int),((i+1+k:Nat):Int),0,0),bV [neg i,neg ((i+1+k:Nat):Int)])):bT)] else[]) 1 970000000
  (fun k acc=>((i:Int),((i+1+k:Nat):Int),A,R,T,e.1,e.2.1,e.2.2.1,e.2.2.2.1,e.2.2.2.2.1,e.2.2.2.2.2.1,e.2.2.2.2.2.2.1,e.2.2.2.2.2.2.2,acc,()))
  (fun acc=>((i:Int),A,R,T,e.1,e.2.1,e.2.2.1,e.2.2.2.1,e.2.2.2.2.1,e.2.2.2.2.2.1,e.2.2.2.2.2.2.1,e.2.2.2.2.2.2.2,acc,())) (fun k h=>rR _ _) ?_ ?_ acc D rfl
 · intro k hk acc D;rw[au4] at hk;have U:i+1+k<A.length:=by omega
   have O:(A.drop (i+1))[k]'(by rw[au4];exact hk)=A[i+1+k]:=List.getElem_drop ..
   have M:=aH (i+1+k);have N: ∀{R:Type} (q:Option R),J (aa .i64 ((i+1+k+1:Nat):Int)) q=q:=fun q=>aw (show i+1+k+1<=4611686018427387904 by omega)
   have c1:aa .i64 ((i:Int)+1):=bd (by omega)
   have c2:aa .i64 (0 - ((i:Int)+1)):=bd (by omega)
   have F:aa .i64 (0 - ((i+1+k+1:Nat):Int)):=bd (by omega)
   have Y:=Z1 [0 - ((i:Int)+1),0 - ((i+1+k+1:Nat):Int)] (o6 (by omega) (by omega)) (by simp)
   rw[O];simp only[Dx,dY (show((i+1+k:Nat):Int)<(A.length:Int) by omega),cond_true,au U,ai c1,ai c2,M,N,ai F,Y,ae2,acN (x:=((3,(i:Int),((i+1+k:Nat):Int),0,0),bV [0 - ((i:Int)+1),0 - ((i+1+k+1:Nat):Int)])) (show acc.length<=999999999 by omega)]
   by_cases q:(A[i+1+k]).1.1=e.1
   · rw[dY q,cond_true,if_pos rfl];rfl
   · grind
 · grind[au4,Dx]
theorem asG (A:List aq) (hA:bu A) (R:List al) (T:bf) (hT:T.length<=57632) (i:Nat) (hi:i<A.length) (e:bO) (he:dD e) (acc:List bT) (U:acc.length<=971000000):
  ab yJ ((i:Int),0,A,R,T,e.1,e.2.1,e.2.2.1,e.2.2.2.1,e.2.2.2.2.1,e.2.2.2.2.2.1,e.2.2.2.2.2.2.1,e.2.2.2.2.2.2.2,acc,())=
   some ((i:Int),A,R,T,e.1,e.2.1,e.2.2.1,e.2.2.2.1,e.2.2.2.2.1,e.2.2.2.2.2.1,e.2.2.2.2.2.2.1,e.2.2.2.2.2.2.2,acc++AR A T i e,()):=by
 have hs:=hA.many;have h4:=he.iW
 refine eX T (fun t w=>sj A T i t e w) 40 971000000
  (fun k acc=>((i:Int),(k:Int),A,R,T,e.1,e.2.1,e.2.2.1,e.2.2.2.1,e.2.2.2.2.1,e.2.2.2.2.2.1,e.2.2.2.2.2.2.1,e.2.2.2.2.2.2.2,acc,()))
  (fun acc=>((i:Int),A,R,T,e.1,e.2.1,e.2.2.1,e.2.2.2.1,e.2.2.2.2.1,e.2.2.2.2.2.1,e.2.2.2.2.2.2.1,e.2.2.2.2.2.2.2,acc,())) (fun k h=>Y' A T i k e he _) ?_ ?_ acc U rfl
 · intro k hk acc U;have F:=aH k;have M: ∀{R:Type} (q:Option R),J (aa .i64 ((k+1:Nat):Int)) q=q:=fun q=>aw (show k+1<=4611686018427387904 by omega)
   have c1:aa .i64 ((i:Int)+1):=bd (by omega)
   have c2:aa .i64 (0 - ((i:Int)+1)):=bd (by omega)
   have Y:aa .i64 ((A.length:Int)+(k:Int)):=bd (by omega)
   have Z:aa .i64 ((A.length:Int)+(k:Int)+1):=bd (by omega)
   have c5:aa .i64 (0 - ((A.length:Int)+(k:Int)+1)):=bd (by omega)
   have O:(e.1,e.2.1,e.2.2.1,e.2.2.2.1,e.2.2.2.2.1,e.2.2.2.2.2.1,e.2.2.2.2.2.2.1,e.2.2.2.2.2.2.2)=e:=rfl;have D:=Sv e (T[k]).2 (by omega)
   unfold sj;by_cases q:(T[k]).1=e.1
   · rw[dY q,if_pos rfl];unfold eP;rcases kX e.2.2.2.2.2.2.2 (fun f=>decide (f.1=(T[k]).2)) with⟨_,p⟩ |⟨j,N,_,p,_,_⟩
     · rw[p] at D;rw[p,if_pos (by decide)]
       simp (disch:=omega) only[K0,yJ,O,D,F,M];rfl
     · rw[p] at D;rw[p,if_neg (by omega),as1,ae9 N]
       have an:=he.qK (ae3 N);have ah:=Z2 A hA R T (by omega) (e.2.2.2.2.2.2.2[j]).2 an [0 - ((i:Int)+1),0 - ((A.length:Int)+(k:Int)+1)] (o6 (by omega) (by omega)) (by simp) (7,(i:Int),(k:Int),0,0) (by simp) acc (by omega)
       simp only[yJ,dY (show((k:Nat):Int)<(T.length:Int) by omega),cond_true,au hk,dY q,ae8,cond_false,ai c1,ai c2,ai Y,ai Z,ai c5,O,D,ae2,dN (show¬((j:Nat):Int)<0 by omega),au N,ah,F,M]
       rfl
   · rw[dN q,if_neg (by decide),at0]
     simp only[yJ,dY (show((k:Nat):Int)<(T.length:Int) by omega),cond_true,au hk,dN q,as4,F,M]
 · intro acc;simp only[yJ,as2,decide_false,cond_false]
theorem asF (A:List aq) (hA:bu A) (R:List al) (T:bf) (i:Nat) (hi:i<A.length) (e:bO) (he:dD e) (acc:List bT) (D:acc.length<=975000000):
  ab JM ((i:Int),0,A,R,T,e.1,e.2.1,e.2.2.1,e.2.2.2.1,e.2.2.2.2.1,e.2.2.2.2.2.1,e.2.2.2.2.2.2.1,e.2.2.2.2.2.2.2,acc,())=some (acc++Gz A i e.2.2.2.2.2.1,()):=by
 have hs:=hA.many;have h4:=he.sn
 refine eX e.2.2.2.2.2.1 (fun k (n:al)=>aN (fun _ y=>[((((9,(i:Int),(k:Int),y,0),bV [neg i,neg y])):bT)]) (eT A n) 0) 360 975000000
  (fun k acc=>((i:Int),(k:Int),A,R,T,e.1,e.2.1,e.2.2.1,e.2.2.2.1,e.2.2.2.2.1,e.2.2.2.2.2.1,e.2.2.2.2.2.2.1,e.2.2.2.2.2.2.2,acc,())) (fun acc=>(acc,())) (fun k h=>by rw[rP];exact au2 (qC _ _) hs) ?_ ?_ acc D rfl
 · intro k hk acc D;have F:=aH k;have M: ∀{R:Type} (q:Option R),J (aa .i64 ((k+1:Nat):Int)) q=q:=fun q=>aw (show k+1<=4611686018427387904 by omega)
   have Y:=ab7 A hA e.2.2.2.2.2.1[k] (he.pJ _ (ae3 hk)).2.1;have an:=qC A e.2.2.2.2.2.1[k];have ar:=Lz A hs e.2.2.2.2.2.1[k]
   have inner:=eX (f:=JN) (v0:=((i:Int),(k:Int),eT A e.2.2.2.2.2.1[k],0,A,R,T,e.1,e.2.1,e.2.2.1,e.2.2.2.1,e.2.2.2.2.1,e.2.2.2.2.2.1,e.2.2.2.2.2.2.1,e.2.2.2.2.2.2.2,acc,())) (eT A e.2.2.2.2.2.1[k]) (fun _ y=>[((((9,(i:Int),(k:Int),y,0),bV [neg i,neg y])):bT)]) 1 980000000
    (fun j acc=>((i:Int),(k:Int),eT A e.2.2.2.2.2.1[k],(j:Int),A,R,T,e.1,e.2.1,e.2.2.1,e.2.2.2.1,e.2.2.2.2.1,e.2.2.2.2.2.1,e.2.2.2.2.2.2.1,e.2.2.2.2.2.2.2,acc,())) (fun acc=>((i:Int),(k:Int),A,R,T,e.1,e.2.1,e.2.2.1,e.2.2.2.1,e.2.2.2.2.1,e.2.2.2.2.2.1,e.2.2.2.2.2.2.1,e.2.2.2.2.2.2.2,acc,())) (fun j N=>ae5 _) ?_ ?_ acc (by omega) rfl
   · simp only[JM,dY (show((k:Nat):Int)<(e.2.2.2.2.2.1.length:Int) by omega),cond_true,au hk,Y,ae2,inner,F,M]
   · intro j N acc D;have F:=aH j;have M: ∀{R:Type} (q:Option R),J (aa .i64 ((j+1:Nat):Int)) q=q:=fun q=>aw (show j+1<=4611686018427387904 by omega)
     have hy:0<=(eT A e.2.2.2.2.2.1[k])[j]/\(eT A e.2.2.2.2.2.1[k])[j]<360:=by obtain⟨z,hz,q,_⟩:=wC.1 (ae3 N);rw[q];omega
     generalize ah:(eT A e.2.2.2.2.2.1[k])[j]=y at hy;have c1:aa .i64 ((i:Int)+1):=bd (by omega)
     have c2:aa .i64 (0 - ((i:Int)+1)):=bd (by omega)
     have O:aa .i64 (y+1):=bd (by omega)
     have U:aa .i64 (0 - (y+1)):=bd (by omega)
     have Z:=Z1 [0 - ((i:Int)+1),0 - (y+1)] (o6 (by omega) (by omega)) (by simp)
     simp only[JN,dY (show((j:Nat):Int)<((eT A e.2.2.2.2.2.1[k]).length:Int) by omega),cond_true,au N,ah,ai c1,ai c2,ai O,ai U,Z,ae2,acN (x:=((9,(i:Int),(k:Int),y,0),bV [0 - ((i:Int)+1),0 - (y+1)])) (show acc.length<=999999999 by omega),F,M]
     rfl
   · intro acc;simp only[JN,as2,decide_false,cond_false]
 · intro acc;simp only[JM,as2,decide_false,cond_false]
theorem arw (A:List aq) (hA:bu A) (R:List al) (T:bf) (hT:T.length<=57632) (i:Nat) (D:i<A.length) (acc:List bT) (Y:acc.length<=960000000):
  J9 (A,R,T) (i:Int) acc=some (acc++mR A T i (A[i]).1):=by
 have hs:=hA.many;have he:=hA.cV _ (ae3 D);have N:=YW A i (A[i]).1.1;have O:=EL A T (mkNA (4,i,0,0,0)) (mkNB (4,i,0,0,0)) [neg i] _ he.rY;have U:=Ye A T i _ he;have c1:aa .i64 (i+1):=bd (by omega)
 have c2:aa .i64 (0 - (i+1)):=bd (by omega)
 unfold J9;show(ag A i).bind _=_;rw[au D,ai c1];show(ab Dx (i,i+1,A,R,T,(A[i]).1.1,(A[i]).1.2.1,(A[i]).1.2.2.1,(A[i]).1.2.2.2.1,(A[i]).1.2.2.2.2.1,(A[i]).1.2.2.2.2.2.1,(A[i]).1.2.2.2.2.2.2.1,(A[i]).1.2.2.2.2.2.2.2,acc,())).bind _=_;generalize(A[i]).1=e at he N O U;have M:=Z2 A hA R T (by omega) e.2.2.2.2.2.2.1 he.rY [neg i] (wj (by unfold neg;omega)) (by simp) (4,i,0,0,0) (by simp) (acc++uu A i e.1) (by grind)
 have h2:=asG A hA R T hT i D e he ((acc++uu A i e.1)++lR A T (mkNA (4,i,0,0,0)) (mkNB (4,i,0,0,0)) [neg i] e.2.2.2.2.2.2.1) (by grind)
 have J:=asF A hA R T i D e he (((acc++uu A i e.1)++lR A T (mkNA (4,i,0,0,0)) (mkNB (4,i,0,0,0)) [neg i] e.2.2.2.2.2.2.1)++AR A T i e) (by grind)
 have F:0 - (i+1)=neg i:=rfl;rw[asH A hs R T i D e acc (by omega)]
 have c2:aa .i64 (neg i):=c2;simp only[ai c1,F,ai c2,M,ae2,h2,J];unfold mR;simp only[at8]
def lp (A:List aq) (R:List al) (T:bf):List bT:=lR A T (mkNA (1,0,0,0,0)) (mkNB (1,0,0,0,0)) [] R++aN (fun i (y:aq)=>mR A T i y.1) A 0
theorem anA (A:List aq) (hA:bu A) (R:List al) (T:bf) (hT:T.length<=57632) (acc:List bT) (D:acc.length<=40):
  ab JC (0,A,R,T,acc,())=some (acc++aN (fun i (y:aq)=>mR A T i y.1) A 0,()):=by
 have hs:=hA.many;refine eX A (fun i y=>mR A T i y.1) 2307120 40 (fun k acc=>((k:Int),A,R,T,acc,())) (fun acc=>(acc,())) (fun k hk=>?_) ?_ ?_ acc D rfl
 · have:=YV A hs T k _ (hA.cV _ (ae3 hk));omega
 · intro k hk acc D;have F:=aH k;have M: ∀{R:Type} (q:Option R),J (aa .i64 (k+1:Nat)) q=q:=fun q=>aw (by omega)
   simp (disch:=omega) only[K0,JC,arw A hA R T hT k hk acc (by omega)]
 · simp[JC]
theorem ZK (A:List aq) (hA:bu A) (R:List al) (hR:bM R) (T:bf) (hT:T.length<=57632):(lp A R T).length<=900000000:=by
 have hs:=hA.many;have h1:=EL A T (mkNA (1,0,0,0,0)) (mkNB (1,0,0,0,0)) [] R hR;have h2:=iU (e:=fun i y=>mR A T i y.1) (m:=2307120) A 0 (fun j D=>by have:=YV A hs T (0+j) _ (hA.cV _ (ae3 D));omega)
 grind[lp]
theorem Si (A:List aq) (hA:bu A) (R:List al) (hR:bM R) (T:bf) (hT:T.length<=57632): ∃ls,rJ (A,R,T)=some ls/\ls.Perm (lp A R T)/\tV (ls.map (·.1)):=by
 obtain⟨o,D,F,J⟩:=ar1 (lp A R T) (by have:=ZK A hA R hR T hT;omega)
 refine⟨o,?_,F,J⟩;have h1:=EL A T (mkNA (1,0,0,0,0)) (mkNB (1,0,0,0,0)) [] R hR;unfold rJ;show(CM (A,R,T) R (1,0,0,0,0) []).bind _=_;rw[ajI A hA R T (by omega) R hR]
 simp only[anA A hA R T hT _ h1,ae2];show(QN (lp A R T)).bind _=_;rw[D];rfl
theorem Q0 (A:List aq) (T:bf) (D:Nat->aY) (F:Nat->Nat->aY) (J:List Int) (ns:List al):(lR A T D F J ns).map (·.1)=r6 D F ns:=by unfold lR r6;rw[tR];congr 1;funext i n;rw[List.map_cons,tR];rfl
theorem mk_1:mkNA (1,0,0,0,0)=(fun(i:Nat)=>((1,(i:Int),0,0,0):aY))/\mkNB (1,0,0,0,0)=(fun(i k:Nat)=>((2,(i:Int),(k:Int),0,0):aY)):=by grind[mkNA,mkNB,mkNS]
theorem mk_4 (i:Int):mkNA (4,i,0,0,0)=(fun(k:Nat)=>((4,i,(k:Int),0,0):aY))/\mkNB (4,i,0,0,0)=(fun(k j:Nat)=>((5,i,(k:Int),(j:Int),0):aY)):=by grind[mkNA,mkNB,mkNS]
theorem mk_7 (i t:Int):mkNA (7,i,t,0,0)=(fun(k:Nat)=>((7,i,t,(k:Int),0):aY))/\mkNB (7,i,t,0,0)=(fun(k j:Nat)=>((8,i,t,(k:Int),(j:Int)):aY)):=by
 refine⟨funext fun k=>?_,funext fun k=>funext fun j=>?_⟩
 · rfl
 · rfl
theorem SD {α β:Type} {e:Nat->α->List β}: ∀(l m:List α) (k:Nat),aN e (l++m) k=aN e l k++aN e m (k+l.length)
 |[],m,k=>rfl
 |x::t,m,k=>by show e k x++aN e (t++m) (k+1)=(e k x++aN e t (k+1))++_;rw[SD t m (k+1),at8,as5,show k+(t.length+1)=k+1+t.length by omega]
theorem Yi {α β:Type} {e:Nat->α->List β} (d:Nat): ∀(l:List α) (k:Nat),aN e l (d+k)=aN (fun j x=>e (d+j) x) l k
 |[],k=>rfl
 |x::t,k=>by show e (d+k) x++aN e t (d+k+1)=_;rw[show d+k+1=d+(k+1) by omega,Yi d t (k+1)];rfl
theorem apJ {α β γ:Type} {e:Nat->α->List β} {g:β->List γ}: ∀(l:List α) (k j:Nat),aN (fun _ y=>g y) (aN e l k) j=aN (fun k x=>aN (fun _ y=>g y) (e k x) 0) l k:=by
 have F: ∀l (k j),aN (fun _ y=>g y) l k=aN (fun _ y=>g y) l j:=by
  intro l
  induction l with
  |nil=>intro k j;rfl
  |cons x t D=>intro k j;show g x++aN _ t (k+1)=g x++aN _ t (j+1);rw[D (k+1) (j+1)]
 intro l
 induction l with
 |nil=>intro k j;rfl
 |cons x t D=>intro k j;show aN (fun _ y=>g y) (e k x++aN e t (k+1)) j=aN (fun _ y=>g y) (e k x) 0++aN _ t (k+1);rw[SD,D,F (e k x) j 0]
theorem SC {α β:Type} {e:Nat->α->List β}: ∀(l:List α) (k:Nat),(∀j (h:j<l.length),e (k+j) l[j]=[])->aN e l k=[]
 |[],k,_=>rfl
 |x::t,k,h=>by show e k x++aN e t (k+1)=[];rw[show e k x=[] from h 0 (Nat.zero_lt_succ _),SC t (k+1) (fun j D=>by have:=h (j+1) (Nat.succ_lt_succ D);rw[show k+1+j=k+(j+1) by omega];exact this)];rfl
theorem anC (A:List aq) (i:Nat) (J:i<A.length) (s:List UInt8):(uu A i s).map (·.1)=AY A i s:=by
 have h0:A=A.take (i+1)++A.drop (i+1):=(au6 _ _).symm;unfold uu AY kJ;rw[tR,apJ]
 conv=>rhs;rw[h0,SD]
 have D:(A.take (i+1)).length=i+1:=by grind
 rw[SC (A.take (i+1)) 0,D,Nat.zero_add,Yi (i+1) (A.drop (i+1+0)) 0]
 · congr 1;funext k y;by_cases q:y.1.1=s
   · simp (disch:=omega) only[K0];show _=(if decide (i<((i+1+k):Int))=true then _ else _)++[]
     simp (disch:=omega) only[K0];rfl
   · simp (disch:=omega) only[K0];rfl
 · intro j F;rw[D] at F;by_cases q:((A.take (i+1))[j]'(by omega)).1.1=s
   · rw[dY q];show(if decide (i<((0+j):Int))=true then _ else _)++[]=[]
     grind
   · rw[dN q];rfl
theorem anB (A:List aq) (T:bf) (i:Nat) (D:i<A.length) (e:bO):((mR A T i e).map (·.1)).Perm (mU A T i e):=by
 unfold mR;simp only[at4];rw[anC A i D,Q0,(mk_4 i).1,(mk_4 i).2]
 have h1:(AR A T i e).map (·.1)=n4 T i e:=by
  unfold AR n4;rw[tR];congr 1;funext t w;unfold sj wU;by_cases q:w.1=e.1
  · rw[dY q,if_pos rfl,if_pos rfl];cases eP e w.2 with
    |none=>rfl
    |some f=>simp only[];rw[Q0,(mk_7 i t).1,(mk_7 i t).2]
  · grind
 have h2:(Gz A i e.2.2.2.2.2.1).map (·.1)=Nw A i e.2.2.2.2.2.1:=by unfold Gz Nw;rw[tR];congr 1;funext k n;rw[tR];rfl
 rw[h1,h2];unfold mU pf o7;rw[List.perm_iff_count];intro z;simp only[List.count_append];omega
theorem RX (A:List aq) (R:List al) (T:bf):((lp A R T).map (·.1)).Perm (iY A R T):=by unfold lp iY;rw[at4,Q0,tR];refine(List.Perm.refl _).append (Zj A 0 fun j D=>?_);rw[Nat.zero_add];exact anB A T j D _
theorem Sa (a b:Want):D4 a b=some (cT a b):=by grind[D4,DR,Lc]
theorem mv.nth {T:bf} (h:mv T) {i j:Nat} (D:i<j) (F:j<T.length):cT (T[i]'(by omega)) T[j]<0:=ax7.1 h i j (by omega) F D
theorem am3 (T:bf) (hs:mv T) (hT:T.length<=60000) (w:Want): ∃i:Int,Ir T w=some (i,T.any fun x=>decide (x=w))/\(T.any (fun x=>decide (x=w))=true->i=bG T fun x=>decide (x=w)):=by
 have main:=mF (f:=CH)
  (fun v=> ∃i j:Nat,v=(T,(T.length:Int),(i:Int),(j:Int),w.1,w.2,())/\i<=j/\j<=T.length/\(∀t (h:t<T.length),t<i->cT T[t] w<0)/\(∀t (h:t<T.length),j<=t-> ¬cT T[t] w<0))
  (fun v=>(v.2.2.2.1 - v.2.2.1).toNat)
  (fun r=> ∃i:Nat,r=(T,(T.length:Int),(i:Int),w.1,w.2,())/\i<=T.length/\(∀t (h:t<T.length),t<i->cT T[t] w<0)/\(∀t (h:t<T.length),i<=t-> ¬cT T[t] w<0)) ?_
  (T,(T.length:Int),0,(T.length:Int),w.1,w.2,()) ⟨0,T.length,rfl,ae6 _,ae5 _,fun t h q=>absurd q (by omega),fun t h q=>absurd q (by omega)⟩
 · obtain⟨r,Z,i,rfl,hi,N,up⟩:=main;unfold Ir;rw[Z,ae2];by_cases h:i<T.length
   · simp only[dY (show((i:Nat):Int)<(T.length:Int) by omega),cond_true,au h,Sa,ae2]
     by_cases e:cT T[i] w=0
     · have M:=KT e;have F:(T.any fun x=>decide (x=w))=true:=ax9.2 ⟨T[i],ae3 h,decide_eq_true M⟩;refine⟨(i:Int),by rw[F];show some ((i:Int),decide (cT T[i] w=0))=_;rw[dY e],fun _=>?_⟩
       rcases kX T (fun x=>decide (x=w)) with⟨q,_⟩ |⟨j,D,_,q,p,_⟩
       · rw[F] at q;cases q
       · rw[q];have p:=of_decide_eq_true p;have U:cT T[j] w=0:=by rw[p];exact ke.self w
         rcases ay7 i j with d |d |d
         · have:=hs.nth d D;rw[p] at this;omega
         · rw[d]
         · have:=hs.nth d h;rw[M] at this;omega
     · have F:(T.any fun x=>decide (x=w))=false:=by
         rw[aA1];intro x O q;obtain⟨j,D,rfl⟩:=au8 O;have q:=of_decide_eq_true q;have U:cT T[j] w=0:=by rw[q];exact ke.self w
         rcases ay7 i j with d |d |d
         · have:=hs.nth d D;rw[q] at this;exact up i h (ae5 _) this
         · subst d;exact e U
         · have:=N j D d;omega
       refine⟨(i:Int),by rw[F];show some ((i:Int),decide (cT T[i] w=0))=_;rw[dN e],fun q=>by rw[F] at q;cases q⟩
   · have F:(T.any fun x=>decide (x=w))=false:=by
       rw[aA1];intro x O q;obtain⟨j,D,rfl⟩:=au8 O;have q:=of_decide_eq_true q;have U:cT T[j] w=0:=by rw[q];exact ke.self w
       have:=N j D (by omega)
       omega
     refine⟨(i:Int),?_,fun q=>by rw[F] at q;cases q⟩
     simp only[dN (show¬((i:Nat):Int)<(T.length:Int) by omega),cond_false]
     rw[F]
 · rintro v ⟨i,j,rfl,ah,D,N,up⟩;by_cases d:i<j
   · have c1:aa .i64 ((i:Int)+(j:Int)):=bd (by omega)
     have hm:(i+j)/2<T.length:=by omega
     have Y: ∀{R:Type} (q:Option R),J (aa .i64 (((i+j)/2+1:Nat):Int)) q=q:=fun q=>aw (show(i+j)/2+1<=4611686018427387904 by omega)
     have hc:=aH ((i+j)/2);have M:(w.1,w.2)=w:=rfl;by_cases g:cT T[(i+j)/2] w<0
     · refine .inl ⟨(T,(T.length:Int),(((i+j)/2+1:Nat):Int),(j:Int),w.1,w.2,()),?_,⟨(i+j)/2+1,j,rfl,by omega,D,fun t h q=>?_,up⟩,?_⟩
       · simp only[CH,dY (show(i:Int)<(j:Int) by omega),cond_true,ai c1,ai (show(0:Int)<=1 by decide),AA i j (by omega),au hm,M,Sa,ae2,dY g,hc,Y]
       · by_cases e:t=(i+j)/2
         · subst e;exact g
         · exact ke.xN (hs.nth (show t<(i+j)/2 by omega) hm) (by omega)
       · show((j:Int) - (((i+j)/2+1:Nat):Int)).toNat<((j:Int) - (i:Int)).toNat;omega
     · refine .inl ⟨(T,(T.length:Int),(i:Int),(((i+j)/2:Nat):Int),w.1,w.2,()),?_,⟨i,(i+j)/2,rfl,by omega,by omega,N,fun t h q=>?_⟩,?_⟩
       · simp only[CH,dY (show(i:Int)<(j:Int) by omega),cond_true,ai c1,ai (show(0:Int)<=1 by decide),AA i j (by omega),au hm,M,Sa,ae2,dN g,cond_false]
       · by_cases e:t=(i+j)/2
         · subst e;exact g
         · intro z;have:=hs.nth (show(i+j)/2<t by omega) h
           exact g (ke.xN this (by omega))
       · show((((i+j)/2:Nat):Int) - (i:Int)).toNat<((j:Int) - (i:Int)).toNat;omega
   · have e:i=j:=by omega
     subst e;refine .inr ⟨(T,(T.length:Int),(i:Int),w.1,w.2,()),?_,i,rfl,D,N,up⟩;simp only[CH,as2,decide_false,cond_false]
theorem var_eq (c:pt) (hs:mv c.2.2) (hT:c.2.2.length<=60000) (M:c.1.length<=360) (w:Want):qe c w=some (cN c.1.length c.2.2 w):=by
 unfold qe cN;obtain⟨i,F,D⟩:=am3 c.2.2 hs hT w;rw[F];rcases kX c.2.2 (fun x=>decide (x=w)) with⟨q,p⟩ |⟨j,J,_,p,_,q⟩
 · grind
 · have D:=D q;rw[p] at D;rw[p];subst D;have c1:aa .i64 (c.1.length+j):=bd (by omega)
   simp (disch:=omega) only[K0,q]
theorem aqx {l:List Int} (h:dV l):Uk l=true:=by unfold Uk;rw[List.all_eq_true];intro x D;obtain⟨a,b⟩:=h x D;rw[dY a,dY b];rfl
theorem ua (l:List Int) (h:dV l) (D:l.length<=1000000):mC l=some (bV l,l):=by unfold mC;rw[aqx h,dY D];rfl
theorem Y0 (s:List aY) (hs:s.length<=100000000) (v:aY):nH s v=some (s.any fun x=>decide (x=v)):=by
 unfold nH PQ;have main:=iT (f:=CX) s (fun x=>decide (x=v)) (fun k=>(s,s.length,k,v.1,v.2.1,v.2.2.1,v.2.2.2.1,v.2.2.2.2,())) (fun k=>.inr (k,())) (.inl ()) ?_ ?_ ?_
 · rw[kj main ?st]
   case st=>rfl
   have F:=o9 s (fun x=>decide (x=v)) inferInstance;rw[<-F];unfold bG;cases s.findIdx? (fun x=>decide (x=v))<;>rfl
 · intro k hk hp;have hp:=of_decide_eq_false hp;have D:(decide (v.1=(s[k]).1)&&(decide (v.2.1=(s[k]).2.1)&&(decide (v.2.2.1=(s[k]).2.2.1)&&(decide (v.2.2.2.1=(s[k]).2.2.2.1)&&decide (v.2.2.2.2=(s[k]).2.2.2.2)))))=false:=by grind
   simp (disch:=omega) only[K0,CX,D]
 · intro k hk hp;have hp:=of_decide_eq_true hp;have D:(decide (v.1=(s[k]).1)&&(decide (v.2.1=(s[k]).2.1)&&(decide (v.2.2.1=(s[k]).2.2.1)&&(decide (v.2.2.2.1=(s[k]).2.2.2.1)&&decide (v.2.2.2.2=(s[k]).2.2.2.2)))))=true:=by grind
   simp (disch:=omega) only[K0,CX,D]
 · simp[CX]
theorem abO (s:List aY) (v:aY):(s.any fun x=>decide (x=v))=decide (v∈s):=by grind
theorem Q1 {D:Nat->aY} {F:Nat->Nat->aY} {ns:List al} {f:aY} (h:f∈r6 D F ns):(∃i,f=D i)\/ ∃i k,f=F i k:=by
 obtain⟨i,J,h⟩:=dG.1 h;rcases at3.1 h with h |h
 · grind
 · obtain⟨k,hk,h⟩:=dG.1 h;exact .inr ⟨i,k,at5.1 h⟩
theorem Xj {i:Nat} {e:bO} {f:aY} (h:f∈o7 i e):(f.1=4\/f.1=5)/\f.2.1=(i:Int):=by
 rcases Q1 h with⟨k,rfl⟩ |⟨k,j,rfl⟩
 · grind
 · grind
theorem X2 {A:List aq} {i:Nat} {e:bO} {f:aY} (h:f∈pf A i e):(f.1=3\/f.1=9)/\f.2.1=(i:Int):=by
 rcases as3.1 h with h |h
 · obtain⟨k,hk,h⟩:=dG.1 h;split at h
   · grind
   · grind
 · obtain⟨k,hk,h⟩:=dG.1 h;obtain⟨j,D,h⟩:=dG.1 h;rw[at5.1 h];exact⟨.inr rfl,rfl⟩
theorem Yd {T:bf} {i:Nat} {e:bO} {f:aY} (h:f∈n4 T i e):(f.1=6\/f.1=7\/f.1=8)/\f.2.1=(i:Int):=by
 obtain⟨t,D,h⟩:=dG.1 h;unfold wU at h;split at h
 · cases g:eP e (T[t]).2 with
   |none=>grind
   |some x=>
    rw[g] at h;rcases Q1 h with⟨k,rfl⟩ |⟨k,j,rfl⟩
    · grind
    · grind
 · grind
theorem FB {A:List aq} {R:List al} {T:bf} {f:aY} (h:f∈iY A R T):(f.1=1\/f.1=2)\/ ∃i,∃D:i<A.length,f.2.1=(i:Int)/\(((f.1=4\/f.1=5)/\f∈o7 i (A[i]).1)\/((f.1=3\/f.1=9)/\f∈pf A i (A[i]).1)\/((f.1=6\/f.1=7\/f.1=8)/\f∈n4 T i (A[i]).1)):=by
 rcases as3.1 h with h |h
 · rcases Q1 h with⟨k,rfl⟩ |⟨k,j,rfl⟩
   · omega
   · omega
 · obtain⟨i,D,h⟩:=dG.1 h;refine .inr ⟨i,D,?_⟩;rcases as3.1 h with h |h
   · rcases as3.1 h with h |h
     · exact⟨(Xj h).2,.inl ⟨(Xj h).1,h⟩⟩
     · exact⟨(X2 h).2,.inr (.inl ⟨(X2 h).1,h⟩)⟩
   · exact⟨(Yd h).2,.inr (.inr ⟨(Yd h).1,h⟩)⟩
theorem aoG {A:List aq} {R:List al} {T:bf} {f:aY} {i:Nat} (D:i<A.length) (h:f∈mU A T i (A[i]).1):f∈iY A R T:=as3.2 (.inr (dG.2 ⟨i,D,h⟩))
theorem ZA (A:List aq) (hA:bu A) (R:List al) (hR:bM R) (hT:(ax A R).length<=400) (f:aY):lK (bn A R) f=some (decide (f∈iY A R (ax A R))):=by
 have hs:=hA.many;obtain⟨N,g1,g2,_⟩:=L2 A hA R hR hT;have hlen:=RY A hA R hR (ax A R) (by omega)
 have hmul:(2000+40*(ax A R).length)*A.length<=18000*360:=Nat.mul_le_mul (by omega) hs
 have an:=g2.length_eq
 have ah:nH N f=some (decide (f∈iY A R (ax A R))):=by
  rw[Y0 N (by omega),abO]
  congr 1;by_cases h:f∈iY A R (ax A R)
  · rw[dY h,dY (g2.mem_iff.2 h)]
  · rw[dN h,dN (fun q=>h (g2.mem_iff.1 q))]
 have O:(bn A R).1.length=A.length:=by show(A.map bN).length=_;rw[ae4]
 have M:(∀q:f∈iY A R (ax A R),False)->decide (f∈iY A R (ax A R))=false:=fun q=>dN (fun h=>q h) _;unfold lK;by_cases Y:f.1<1
 · rw[dY Y,cond_true,M];intro h;rcases FB h with h |⟨i,F,_,h⟩<;>omega
 rw[dN Y,cond_false];by_cases k9:9<f.1
 · rw[dY k9,cond_true,M];intro h;rcases FB h with h |⟨i,F,_,h⟩<;>omega
 rw[dN k9,cond_false];by_cases k1:f.1=1
 · grind
 rw[dN k1,cond_false];by_cases k2:f.1=2
 · rw[dY k2,cond_true,g1,ae2,ah];rfl
 rw[dN k2,cond_false];by_cases n0:f.2.1<0
 · rw[dY n0,cond_true,M];intro h;rcases FB h with h |⟨i,F,_,h⟩<;>omega
 rw[dN n0,cond_false];by_cases n1:(A.length:Int)<=f.2.1
 · rw[dY (by rw[O];exact n1),cond_true,M]
   intro h;rcases FB h with h |⟨i,F,_,h⟩<;>omega
 rw[dN (by rw[O];exact n1),cond_false]
 obtain⟨i,F⟩: ∃i:Nat,f.2.1=(i:Int):=⟨f.2.1.toNat,by omega⟩
 have J:i<A.length:=by omega
 have he:=hA.cV _ (ae3 J);have U:=L3 A hs (ax A R) (by omega) i (A[i]).1 he
 unfold mU at U;simp only[as0] at U
 have same: ∀{P:Prop} (s:List aY),s.length<=100000000->(f∈s->f∈mU A (ax A R) i (A[i]).1)->(f∈iY A R (ax A R)->f∈s)->nH s f=some (decide (f∈iY A R (ax A R))):=by
  intro P s h1 h2 h3;rw[Y0 s h1,abO];congr 1;by_cases h:f∈iY A R (ax A R)
  · rw[dY h,dY (h3 h)]
  · rw[dN h,dN (fun q=>h (aoG J (h2 q)))]
 have D:f∈iY A R (ax A R)->(((f.1=4\/f.1=5)/\f∈o7 i (A[i]).1)\/((f.1=3\/f.1=9)/\f∈pf A i (A[i]).1)\/((f.1=6\/f.1=7\/f.1=8)/\f∈n4 (ax A R) i (A[i]).1)):=by
  intro h;rcases FB h with h |⟨j,hj,e,h⟩
  · omega
  · have:j=i:=by omega
    subst this;exact h
 have s1:=same (P:=True) (o7 i (A[i]).1) (by omega) (fun q=>as3.2 (.inl (as3.2 (.inl q))))
 have s2:=same (P:=True) (pf A i (A[i]).1) (by omega) (fun q=>as3.2 (.inl (as3.2 (.inr q))))
 have s3:=same (P:=True) (n4 (ax A R) i (A[i]).1) (by omega) (fun q=>as3.2 (.inr q))
 have q1:=Yv A hA (bn A R) rfl i J;have q2:=ZT A hA (bn A R) rfl i J;have q3:yp (bn A R) (i:Int)=some (n4 (ax A R) i (A[i]).1):=aax A hA (bn A R) rfl (show(ax A R).length<=60000 by omega) i J
 rw[F];by_cases Z:f.1=4
 · rw[dY Z,cond_true,q1,ae2,s1 (fun h=>by rcases D h with h |h |h<;>first |exact h.2 |(exfalso;omega))];rfl
 rw[dN Z,cond_false];by_cases k5:f.1=5
 · rw[dY k5,cond_true,q1,ae2,s1 (fun h=>by rcases D h with h |h |h<;>first |exact h.2 |(exfalso;omega))];rfl
 rw[dN k5,cond_false];by_cases k3:f.1=3
 · rw[dY k3,cond_true,q2,ae2,s2 (fun h=>by rcases D h with h |h |h<;>first |(exfalso;omega) |exact h.2)];rfl
 rw[dN k3,cond_false];by_cases kk:f.1=9
 · rw[dY kk,cond_true,q2,ae2,s2 (fun h=>by rcases D h with h |h |h<;>first |(exfalso;omega) |exact h.2)];rfl
 rw[dN kk,cond_false,q3,ae2,s3 (fun h=>by rcases D h with h |h |h<;>first |(exfalso;omega) |exact h.2)];rfl
theorem EJ {A:List aq} {T:bf} {J:Nat->aY} {M:Nat->Nat->aY} {D:List Int} {ns:List al} {l:bT} (h:l∈lR A T J M D ns):
  ∃i,∃F:i<ns.length,l=(J i,bV (D++fq A ns[i]))\/ ∃k,∃hk:k<(ns[i]).2.2.length,l=(M i k,bV (D++[cN A.length T ((ns[i]).1,(ns[i]).2.2[k])])):=by
 obtain⟨i,F,h⟩:=dG.1 h;refine⟨i,F,?_⟩;rcases at3.1 h with h |h
 · grind
 · obtain⟨k,hk,h⟩:=dG.1 h;exact .inr ⟨k,hk,at5.1 h⟩
theorem Tp (A:List aq) (R:List al):(bn A R).2.1=R.map aO:=rfl
theorem aq0 (A:List aq) (R:List al):(bn A R).2.2=ax A R:=rfl
theorem wT {ns:List al} {k:Nat} (h:k<ns.length) {R:Type} (f:dC->Option R):(ag (ns.map aO) (k:Int)).bind f=f (aO ns[k]):=by rw[au (l:=ns.map aO) (by grind),au5]
theorem aaZ (A:List aq) (hA:bu A) (R:List al) (hT:(ax A R).length<=400) (w:Want):qe (bn A R) w=some (cN A.length (ax A R) w):=by
 have hs:=hA.many;have:=var_eq (bn A R) (Kl _) (show(ax A R).length<=60000 by omega) (by rw[nV,ae4];exact hs) w
 rw[nV,ae4] at this;exact this
theorem Tq (A:List aq) (hA:bu A) (R:List al) (hT:(ax A R).length<=400) (n:al) (k:Nat) (hk:k<n.2.2.length):yI (bn A R) (aO n) (k:Int)=some (cN A.length (ax A R) (n.1,n.2.2[k])):=by unfold yI;show(ag n.2.2 k).bind _=_;rw[au hk];show(qe (bn A R) (n.1,n.2.2[k])).bind _=_;rw[aaZ A hA R hT];rfl
theorem aaz (A:List aq) (hA:bu A) (R:List al) (i t:Nat) (D:i<A.length) (M:t<(ax A R).length) (fd:fv) (hf:eP (A[i]).1 ((ax A R)[t]).2=some fd) (q a b:Int):C1 (bn A R) (q,(i:Int),(t:Int),a,b)=some (ee fd):=by
 have he:=hA.cV _ (ae3 D);have N:=he.iW;unfold C1;simp only[nV,kC D];show(ag (ax A R) t).bind _=_;rw[au M]
 have F:qb (bN A[i]).1 ((ax A R)[t]).2=some (bG (A[i]).1.2.2.2.2.2.2.2 (fun f=>decide (f.1=((ax A R)[t]).2))):=by
  rw[My _ _ (by show(((A[i]).1.2.2.2.2.2.2.2.map ee).length)<=1000;rw[ae4];omega)]
  show some (bG ((A[i]).1.2.2.2.2.2.2.2.map ee) _)=_;rw[Sm];rfl
 rw[F];unfold eP at hf;rcases kX (A[i]).1.2.2.2.2.2.2.2 (fun f=>decide (f.1=((ax A R)[t]).2)) with⟨_,p⟩ |⟨j,J,_,p,_,_⟩
 · grind
 · simp (disch:=omega) only[K0,p,ae9 J] at hf;rw[p];show(ag ((A[i]).1.2.2.2.2.2.2.2.map ee) j).bind _=_;rw[au (by grind),au5,Option.some.inj hf]
theorem aae (A:List aq) (hA:A.length<=360) (i:Nat) (D:i<A.length):dV [neg i]:=wj (by unfold neg;omega)
theorem ao7 {x y:Int} (h:x.natAbs<y.natAbs):bV [x,y]=[x,y]:=by refine(Mo (l:=[x,y]) ?_ fun z=>Iff.rfl).symm;refine List.pairwise_cons.2 ⟨fun z D=>?_,List.pairwise_singleton _ _⟩;rw[at5.1 D];exact Al.1 (by unfold ot;rw[dY h];rfl)
theorem apR {a b:List Int}: ∀z,z∈a++b<->z∈b++a:=by grind
section
variable (A:List aq) (hA:bu A) (R:List al) (hR:bM R) (hT:(ax A R).length<=400)
include hA
theorem cl1 (hR:bM R) (i:Nat) (D:i<R.length) (M:lK (bn A R) (1,(i:Int),0,0,0)=some true):fg (bn A R) (1,(i:Int),0,0,0)=some (bV ([]++fq A R[i]),true):=by
 have hs:=hA.many;have hm:=hR.many;have F:=hR.dO _ (ae3 D);have c1:aa .i64 (i+1):=bd (by omega)
 have c2:aa .i64 (0 - (i+1)):=bd (by omega)
 have J:=Yt A hA (bn A R) rfl R[i] F.2.1;have N:=EY A R[i];unfold fg;rw[M,ae2,ae8,cond_false,List.nil_append];dsimp only;rw[ai c1,ai c2,dY (show(1:Int)=1 from rfl),cond_true,Tp,wT D,J,ae2,ua _ (Fe A hs R[i]) (by omega),ae2]
theorem cl2 (hR:bM R) (hT:(ax A R).length<=400) (i:Nat) (D:i<R.length) (k:Nat) (hk:k<(R[i]).2.2.length) (J:lK (bn A R) (2,(i:Int),(k:Int),0,0)=some true):fg (bn A R) (2,(i:Int),(k:Int),0,0)=some (bV ([]++[cN A.length (ax A R) ((R[i]).1,(R[i]).2.2[k])]),true):=by
 have hm:=hR.many;have c1:aa .i64 (i+1):=bd (by omega)
 have c2:aa .i64 (0 - (i+1)):=bd (by omega)
 have F:bV ([]++[cN A.length (ax A R) ((R[i]).1,(R[i]).2.2[k])])=[cN A.length (ax A R) ((R[i]).1,(R[i]).2.2[k])]:=rfl;rw[F];unfold fg;rw[J,ae2,ae8,cond_false];dsimp only;rw[ai c1,ai c2,dN (show¬(2:Int)=1 by decide),cond_false,dY (show(2:Int)=2 from rfl),cond_true,Tp,wT D,Tq A hA R hT R[i] k hk,ae2]
theorem cl3 (i:Nat) (N:i<A.length) (j:Nat) (O:j<A.length) (M:lK (bn A R) (3,(i:Int),(j:Int),0,0)=some true):fg (bn A R) (3,(i:Int),(j:Int),0,0)=some (bV [neg i,neg j],true):=by
 have hs:=hA.many;have c1:aa .i64 (i+1):=bd (by omega)
 have c2:aa .i64 (neg i):=bd (by unfold neg;omega)
 have D:aa .i64 (j+1):=bd (by omega)
 have F:aa .i64 (neg j):=bd (by unfold neg;omega)
 have J: ∀x:Int,0 - (x+1)=neg x:=fun x=>by unfold neg;rfl
 unfold fg;rw[M,ae2,ae8,cond_false];simp only[J];rw[ai c1,ai c2,dN (show¬(3:Int)=1 by decide),cond_false,dN (show¬(3:Int)=2 by decide),cond_false,decide_true,cond_true,ai D,ai F,ua [neg i,neg j] (o6 (by grind) (by grind)) (by simp),ae2]
theorem cl9 (i:Nat) (N:i<A.length) (k:Nat) (y:Int) (O:0<=y/\y<360) (M:lK (bn A R) (9,(i:Int),(k:Int),y,0)=some true):fg (bn A R) (9,(i:Int),(k:Int),y,0)=some (bV [neg i,neg y],true):=by
 have hs:=hA.many;have c1:aa .i64 (i+1):=bd (by omega)
 have c2:aa .i64 (neg i):=bd (by unfold neg;omega)
 have D:aa .i64 (y+1):=bd (by omega)
 have F:aa .i64 (neg y):=bd (by unfold neg;omega)
 have J: ∀x:Int,0 - (x+1)=neg x:=fun x=>by unfold neg;rfl
 unfold fg;rw[M,ae2,ae8,cond_false];simp only[J];rw[ai c1,ai c2,dN (show¬(9:Int)=1 by decide),cond_false,dN (show¬(9:Int)=2 by decide),cond_false,dN (show¬(9:Int)=3 by decide),cond_false,dN (show¬(9:Int)=4 by decide),cond_false,dN (show¬(9:Int)=5 by decide),cond_false,decide_true,cond_true,ai D,ai F,ua [neg i,neg y] (o6 (by grind) (by grind)) (by simp),ae2]
theorem cl4 (i:Nat) (D:i<A.length) (k:Nat) (hk:k<(A[i]).1.2.2.2.2.2.2.1.length) (U:lK (bn A R) (4,(i:Int),(k:Int),0,0)=some true):fg (bn A R) (4,(i:Int),(k:Int),0,0)=some (bV ([neg i]++fq A (A[i]).1.2.2.2.2.2.2.1[k]),true):=by
 have hs:=hA.many;have he:=hA.cV _ (ae3 D);have c1:aa .i64 (i+1):=bd (by omega)
 have c2:aa .i64 (neg i):=bd (by unfold neg;omega)
 have F: ∀x:Int,0 - (x+1)=neg x:=fun x=>by unfold neg;rfl
 have N:=he.dO _ (ae3 hk);have O:=Yt A hA (bn A R) rfl (A[i]).1.2.2.2.2.2.2.1[k] N.2.1;have Y:=EY A (A[i]).1.2.2.2.2.2.2.1[k];have M:(bN A[i]).1.2.2.2.2.2.2.1=(A[i]).1.2.2.2.2.2.2.1.map aO:=Eq.trans rfl rfl;have k1:(fq A (A[i]).1.2.2.2.2.2.2.1[k]).length+[neg i].length<=1000000000:=by grind
 have J:=ua (fq A (A[i]).1.2.2.2.2.2.2.1[k]++[neg i]) (tP (Fe A hs _) (aae A hs i D)) (by grind)
 rw[al1 apR];unfold fg;rw[U,ae2,ae8,cond_false];simp only[F];rw[ai c1,ai c2,dN (show¬(4:Int)=1 by decide),cond_false,dN (show¬(4:Int)=2 by decide),cond_false,dN (show¬(4:Int)=3 by decide),cond_false,decide_true,cond_true,nV,kC D,M,wT hk,O,ae2,ai k1,J,ae2]
theorem cl5 (hT:(ax A R).length<=400) (i:Nat) (D:i<A.length) (k:Nat) (hk:k<(A[i]).1.2.2.2.2.2.2.1.length) (j:Nat) (M:j<((A[i]).1.2.2.2.2.2.2.1[k]).2.2.length) (O:lK (bn A R) (5,(i:Int),(k:Int),(j:Int),0)=some true):
  fg (bn A R) (5,(i:Int),(k:Int),(j:Int),0)=some (bV ([neg i]++[cN A.length (ax A R) (((A[i]).1.2.2.2.2.2.2.1[k]).1,((A[i]).1.2.2.2.2.2.2.1[k]).2.2[j])]),true):=by
 have hs:=hA.many;have he:=hA.cV _ (ae3 D);have c1:aa .i64 (i+1):=bd (by omega)
 have c2:aa .i64 (neg i):=bd (by unfold neg;omega)
 have J: ∀x:Int,0 - (x+1)=neg x:=fun x=>by unfold neg;rfl
 have N:(bN A[i]).1.2.2.2.2.2.2.1=(A[i]).1.2.2.2.2.2.2.1.map aO:=Eq.trans rfl rfl;have U: ∀w,dV [cN A.length (ax A R) w]:=fun w=>wj (by have:=Et A.length (ax A R) w;omega)
 have F:=ua ([neg i]++[cN A.length (ax A R) (((A[i]).1.2.2.2.2.2.2.1[k]).1,((A[i]).1.2.2.2.2.2.2.1[k]).2.2[j])]) (tP (aae A hs i D) (U _)) (by simp)
 rw[List.singleton_append] at F⊢;unfold fg;rw[O,ae2,ae8,cond_false];simp only[J];rw[ai c1,ai c2,dN (show¬(5:Int)=1 by decide),cond_false,dN (show¬(5:Int)=2 by decide),cond_false,dN (show¬(5:Int)=3 by decide),cond_false,dN (show¬(5:Int)=4 by decide),cond_false,decide_true,cond_true,nV,kC D,N,wT hk,Tq A hA R hT _ j M,ae2,F,ae2]
theorem cl6 (hT:(ax A R).length<=400) (i:Nat) (Y:i<A.length) (t:Nat) (Z:t<(ax A R).length) (U:lK (bn A R) (6,(i:Int),(t:Int),0,0)=some true):
  fg (bn A R) (6,(i:Int),(t:Int),0,0)=some ([neg i,neg ((A.length:Int)+(t:Int))],true):=by
 have hs:=hA.many;have c1:aa .i64 (i+1):=bd (by omega)
 have c2:aa .i64 (neg i):=bd (by unfold neg;omega)
 have M: ∀x:Int,0 - (x+1)=neg x:=fun x=>by unfold neg;rfl
 have D:aa .i64 (A.length+t):=bd (by omega)
 have F:aa .i64 (A.length+t+1):=bd (by omega)
 have J:aa .i64 (neg (A.length+t)):=bd (by grind)
 have N:dV [neg i,neg (A.length+t)]:=o6 (by grind) (by grind)
 have O:bV [neg i,neg (A.length+t)]=[neg i,neg (A.length+t)]:=ao7 (by grind)
 unfold fg;rw[U,ae2,ae8,cond_false];simp only[M];rw[ai c1,ai c2,dN (show¬(6:Int)=1 by decide),cond_false,dN (show¬(6:Int)=2 by decide),cond_false,dN (show¬(6:Int)=3 by decide),cond_false,dN (show¬(6:Int)=4 by decide),cond_false,dN (show¬(6:Int)=5 by decide),cond_false,dN (show¬(6:Int)=9 by decide),cond_false,nV,ae4,ai D,ai F,ai J,dN (show¬(6:Int)=7 by decide),cond_false,dN (show¬(6:Int)=8 by decide),cond_false,ua _ N (by simp),ae2,O]
theorem cl7 (hT:(ax A R).length<=400) (i:Nat) (D:i<A.length) (t:Nat) (ht:t<(ax A R).length) (fd:fv) (hf:eP (A[i]).1 ((ax A R)[t]).2=some fd) (k:Nat) (hk:k<fd.2.length) (an:lK (bn A R) (7,(i:Int),(t:Int),(k:Int),0)=some true):
  fg (bn A R) (7,(i:Int),(t:Int),(k:Int),0)=some (bV ([neg i,neg ((A.length:Int)+(t:Int))]++fq A fd.2[k]),true):=by
 have hs:=hA.many;have he:=hA.cV _ (ae3 D);have c1:aa .i64 (i+1):=bd (by omega)
 have c2:aa .i64 (neg i):=bd (by unfold neg;omega)
 have N: ∀x:Int,0 - (x+1)=neg x:=fun x=>by unfold neg;rfl
 have F:aa .i64 (A.length+t):=bd (by omega)
 have J:aa .i64 (A.length+t+1):=bd (by omega)
 have M:aa .i64 (neg (A.length+t)):=bd (by grind)
 have O:dV [neg i,neg (A.length+t)]:=o6 (by grind) (by grind)
 have Z:=(he.qK (ES hf)).dO _ (ae3 hk);have ah:=aqc A hA (bn A R) rfl (fd.2[k]) Z.2.1;have ar:=EY A (fd.2[k]);have Y:(ee fd).2=fd.2.map aO:=Eq.trans rfl rfl;have k1:[neg i,neg (A.length+t)].length+(fq A fd.2[k]).length<=1000000000:=by grind
 have U:=ua ([neg i,neg (A.length+t)]++fq A fd.2[k]) (tP O (Fe A hs _)) (by grind)
 unfold fg;rw[an,ae2,ae8,cond_false];simp only[N];rw[ai c1,ai c2,dN (show¬(7:Int)=1 by decide),cond_false,dN (show¬(7:Int)=2 by decide),cond_false,dN (show¬(7:Int)=3 by decide),cond_false,dN (show¬(7:Int)=4 by decide),cond_false,dN (show¬(7:Int)=5 by decide),cond_false,dN (show¬(7:Int)=9 by decide),cond_false,nV,ae4,ai F,ai J,ai M,decide_true,cond_true,aaz A hA R i t D ht fd hf,ae2,Y,wT hk,ah,ae2,ai k1,U,ae2]
theorem cl8 (hT:(ax A R).length<=400) (i:Nat) (U:i<A.length) (t:Nat) (ht:t<(ax A R).length) (fd:fv) (hf:eP (A[i]).1 ((ax A R)[t]).2=some fd) (k:Nat) (hk:k<fd.2.length) (j:Nat) (Y:j<(fd.2[k]).2.2.length) (ah:lK (bn A R) (8,(i:Int),(t:Int),(k:Int),(j:Int))=some true):
  fg (bn A R) (8,(i:Int),(t:Int),(k:Int),(j:Int))=some (bV ([neg i,neg ((A.length:Int)+(t:Int))]++[cN A.length (ax A R) ((fd.2[k]).1,(fd.2[k]).2.2[j])]),true):=by
 have hs:=hA.many;have c1:aa .i64 (i+1):=bd (by omega)
 have c2:aa .i64 (neg i):=bd (by unfold neg;omega)
 have M: ∀x:Int,0 - (x+1)=neg x:=fun x=>by unfold neg;rfl
 have D:aa .i64 (A.length+t):=bd (by omega)
 have F:aa .i64 (A.length+t+1):=bd (by omega)
 have J:aa .i64 (neg (A.length+t)):=bd (by grind)
 have N:dV [neg i,neg (A.length+t)]:=o6 (by grind) (by grind)
 have Z:(ee fd).2=fd.2.map aO:=Eq.trans rfl rfl;have an: ∀w,dV [cN A.length (ax A R) w]:=fun w=>wj (by have:=Et A.length (ax A R) w;omega)
 have k1: ∀y:Int,[neg i,neg (A.length+t)].length+[y].length<=1000000000:=fun y=>by simp (disch:=omega) only[K0];omega
 have O:=ua ([neg i,neg (A.length+t)]++[cN A.length (ax A R) ((fd.2[k]).1,(fd.2[k]).2.2[j])]) (tP N (an _)) (by simp)
 unfold fg;rw[ah,ae2,ae8,cond_false];simp only[M];rw[ai c1,ai c2,dN (show¬(8:Int)=1 by decide),cond_false,dN (show¬(8:Int)=2 by decide),cond_false,dN (show¬(8:Int)=3 by decide),cond_false,dN (show¬(8:Int)=4 by decide),cond_false,dN (show¬(8:Int)=5 by decide),cond_false,dN (show¬(8:Int)=9 by decide),cond_false,nV,ae4,ai D,ai F,ai J,dN (show¬(8:Int)=7 by decide),cond_false,decide_true,cond_true,aaz A hA R i t U ht fd hf,ae2,Z,wT hk,Tq A hA R hT _ j Y,ae2,ai (k1 _),O,ae2]
end
theorem XH (A:List aq) (hA:bu A) (R:List al) (hR:bM R) (hT:(ax A R).length<=400) (l:bT) (h:l∈lp A R (ax A R)):fg (bn A R) l.1=some (l.2,true):=by
 have F:lK (bn A R) l.1=some true:=by rw[ZA A hA R hR hT,dY];exact(RX A R (ax A R)).mem_iff.1 (au0.2 ⟨l,h,rfl⟩)
 unfold lp at h;rcases as3.1 h with h |h
 · rw[mk_1.1,mk_1.2] at h;obtain⟨i,D,h⟩:=EJ h;rcases h with rfl |⟨k,hk,rfl⟩
   · exact cl1 A hA R hR i D F
   · exact cl2 A hA R hR hT i D k hk F
 · obtain⟨i,D,h⟩:=dG.1 h;unfold mR at h;rcases as3.1 h with h |h
   · rcases as3.1 h with h |h
     · rcases as3.1 h with h |h
       · obtain⟨k,hk,h⟩:=dG.1 h;rw[au4] at hk;split at h
         · have h:=at5.1 h;subst h;exact cl3 A hA R i D (i+1+k) (by omega) F
         · grind
       · rw[(mk_4 i).1,(mk_4 i).2] at h;obtain⟨k,hk,h⟩:=EJ h;rcases h with rfl |⟨j,J,rfl⟩
         · exact cl4 A hA R i D k hk F
         · exact cl5 A hA R hT i D k hk j J F
     · obtain⟨t,M,h⟩:=dG.1 h;unfold sj at h;split at h
       · cases hf:eP (A[i]).1 ((ax A R)[t]).2 with
         |none=>rw[hf] at h;have h:=at5.1 h;subst h;exact cl6 A hA R hT i D t M F
         |some fd=>
          rw[hf] at h;simp only[] at h;rw[(mk_7 i t).1,(mk_7 i t).2] at h;obtain⟨k,hk,h⟩:=EJ h;rcases h with rfl |⟨j,J,rfl⟩
          · exact cl7 A hA R hT i D t M fd hf k hk F
          · exact cl8 A hA R hT i D t M fd hf k hk j J F
       · cases h
   · obtain⟨k,hk,h⟩:=dG.1 h;obtain⟨j,J,h⟩:=dG.1 h;have h:=at5.1 h;have N:0<=(eT A (A[i]).1.2.2.2.2.2.1[k])[j]/\(eT A (A[i]).1.2.2.2.2.2.1[k])[j]<360:=by have hs:=hA.many;obtain⟨z,O,q,_⟩:=wC.1 (ae3 J);rw[q];omega
     subst h;exact cl9 A hA R i D k _ N F
theorem an9 (A:List aq) (hA:bu A) (R:List al) (hR:bM R) (hT:(ax A R).length<=400) (f:aY) (h:f∉iY A R (ax A R)):fg (bn A R) f=some ([],false):=by unfold fg;rw[ZA A hA R hR hT,dN h];rfl
theorem Fh (a:List Int) (D:a.length<=1000000000):oZ a a=some true:=by
 unfold oZ;simp (disch:=omega) only[K0];have main:=kg (f:=K4) a (fun _=>true) (fun k=>(a,a,k,())) (.inl ()) (.inr ()) ?_ ?_ ?_
 · grind
 · intro k hk _;simp only[K4,dY (show(k)<(a.length:Int) by omega),cond_true,au hk,decide_true,ae8,cond_false,aw (show k+1<=4611686018427387904 by omega),aH]
 · grind
 · simp[K4]
theorem al2 (a:List (List Int)) (F:a.length<=1000000000) (D: ∀x∈a,x.length<=1000000000):Ll a a=some true:=by
 unfold Ll;simp (disch:=omega) only[K0];have main:=kg (f:=KA) a (fun _=>true) (fun k=>(a,a,k,())) (.inl ()) (.inr ()) ?_ ?_ ?_
 · grind
 · intro k hk _;simp (disch:=omega) only[K0,KA,Fh a[k] (D _ (ae3 hk))]
 · grind
 · simp[KA]
theorem ak0 (ls:List bT) (h:ls.length<=999999999):Kz ls=some (ls.map (·.2)):=by
 unfold Kz;have main:=qt (f:=J') ls (fun l=>l.2) (fun k acc=>(ls,k,acc,())) (fun acc=>(acc,())) ?_ ?_
 · grind
 · intro k hk acc D;simp (disch:=omega) only[K0,J']
 · simp[J']
structure Gs (A:List aq) (R:List al) (ls:List bT):Prop where
 lines:rJ (ij A R)=some ls
 facts:nK (bn A R)=some (ls.map (·.1))
 clause: ∀l∈ls,fg (bn A R) l.1=some (l.2,true)
 out: ∀f,f∉ls.map (·.1)->fg (bn A R) f=some ([],false)
 len:ls.length<=900000000
theorem Yy (A:List aq) (hA:bu A) (R:List al) (hR:bM R) (hT:(ax A R).length<=400): ∃ls,Gs A R ls:=by
 obtain⟨ls,M,D,N⟩:=Si A hA R hR (ax A R) (Ar A hA R hR);obtain⟨F,f1,f2,f3⟩:=L2 A hA R hR hT;have e:F=ls.map (·.1):=tV.unique f3 N (f2.trans ((D.map _).trans (RX A R _)).symm)
 refine⟨ls,M,by rw[f1,e],fun l J=>XH A hA R hR hT l (D.mem_iff.1 J),fun f hf=>an9 A hA R hR hT f fun q=>hf ?_,?_⟩
 · grind
 · rw[D.length_eq];exact ZK A hA R hR _ (Ar A hA R hR)
theorem ZI (A:List aq) (hA:A.length<=360) (R:List al) (hT:(ax A R).length<=400) (l:bT) (O:l∈lp A R (ax A R)):l.2.length<=1000/\dV l.2:=by
 have lN: ∀{m:List Int},dV m->dV (bV m):=fun{m} h x J=>h x (((tC m).2 x).1 J);have an: ∀i:Nat,i<=1000->dV [neg i]:=fun i h=>wj (by unfold neg;omega)
 have F: ∀(U:Nat->aY) (Y:Nat->Nat->aY) (D:List Int) (ns:List al),D.length<=10->dV D->l∈lR A (ax A R) U Y D ns->l.2.length<=1000/\dV l.2:=by
  intro U Y D ns ar M hq;obtain⟨i,Z,q⟩:=EJ hq;rcases q with rfl |⟨k,hk,rfl⟩
  · have:=L0 (D++fq A ns[i]);have h2:=EY A ns[i];rw[as0] at this;exact⟨by show(bV (D++fq A ns[i])).length<=_;omega,lN (tP M (Fe A hA _))⟩
  · have:=L0 (D++[cN A.length (ax A R) ((ns[i]).1,(ns[i]).2.2[k])]);have hr:=Et A.length (ax A R) ((ns[i]).1,(ns[i]).2.2[k]);rw[as0,au7] at this;exact⟨by show(bV _).length<=_;omega,lN (tP M (wj (by omega)))⟩
 unfold lp at O;rcases as3.1 O with q |q
 · exact F _ _ _ _ (ae6 _) (fun x J=>(av6 J).elim) q
 · obtain⟨i,Z,q⟩:=dG.1 q;unfold mR at q;rcases as3.1 q with q |q
   · rcases as3.1 q with q |q
     · rcases as3.1 q with q |q
       · obtain⟨k,hk,q⟩:=dG.1 q;rw[au4] at hk;split at q
         · rw[at5.1 q];exact⟨au2 (L0 _) (by simp),lN (o6 (by unfold neg;omega) (by unfold neg;omega))⟩
         · cases q
       · exact F _ _ _ _ (by simp) (an i (by omega)) q
     · obtain⟨t,ht,q⟩:=dG.1 q;have N:dV [neg i,neg ((A.length:Int)+(t:Int))]:=o6 (by unfold neg;omega) (by unfold neg;omega)
       unfold sj at q;split at q
       · cases hf:eP (A[i]).1 ((ax A R)[t]).2 with
         |none=>rw[hf] at q;rw[at5.1 q];exact⟨(by decide:2<=1000),N⟩
         |some fd=>rw[hf] at q;exact F _ _ _ _ (by simp) N q
       · cases q
   · obtain⟨k,hk,q⟩:=dG.1 q;obtain⟨j,hj,q⟩:=dG.1 q;obtain⟨z,hz,e,_⟩:=wC.1 (ae3 hj);rw[at5.1 q];exact⟨au2 (L0 _) (by simp),lN (o6 (by unfold neg;omega) (by rw[e];unfold neg;omega))⟩
theorem Gs.short {A:List aq} {R:List al} {ls:List bT} (h:Gs A R ls) (hA:bu A) (hR:bM R) (hT:(ax A R).length<=400): ∀l∈ls,l.2.length<=1000000000:=by
 intro l D;obtain⟨M,F,J,N⟩:=Si A hA R hR (ax A R) (Ar A hA R hR)
 have e:M=ls:=by
  have h1:=h.lines;rw[show rJ (ij A R)=_ from F] at h1
  exact Option.some.inj h1
 have:=(ZI A hA.many R hT l (J.mem_iff.1 (e▸D))).1;omega
theorem Yc (A:List aq) (hA:bu A) (R:List al) (hR:bM R) (ls:List bT) (hf:nK (bn A R)=some (ls.map (·.1))) (D: ∀l∈ls,fg (bn A R) l.1=some (l.2,true)) (N:ls.length<=900000000):yu (bn A R)=some (((A.length+(ax A R).length:Nat):Int),ls.map (·.2)):=by
 unfold yu;rw[(FO A hA R hR).1,ae2,hf,ae2];have main:=qt (f:=IW) ls (fun l=>l.2) (fun k acc=>(bn A R,ls.map (·.1),((ls.map (·.1)).length:Int),(k:Int),0,((A.length+(ax A R).length:Nat):Int),acc,())) (fun acc=>(0,((A.length+(ax A R).length:Nat):Int),acc,())) ?_ ?_
 · rw[kj main ?st]
   case st=>rfl
   rfl
 · intro k hk acc M;have J:k<(ls.map (·.1)).length:=by rw[ae4];exact hk
   have F:(ls.map (·.1))[k]=(ls[k]).1:=au5 _
   simp only[IW,ae4,dY (show((k:Nat):Int)<(ls.length:Int) by omega),cond_true,au J,F,D _ (ae3 hk),ae2,ib (x:=(ls[k]).2) (show acc.length<=999999999 by omega),aw (show k+1<=4611686018427387904 by omega),aH]
 · simp only[IW,ae4,as2,decide_false,cond_false]
theorem amb (A:List aq) (R:List al) (ls:List bT) (h:Gs A R ls) (D: ∀l∈ls,l.2.length<=1000000000):ab CZ (bn A R,ls,ls.map (·.1),0,())=some (.inl ()):=by
 have N:=h.len;have main:=kg (f:=CZ) ls (fun _=>true) (fun k=>(bn A R,ls,ls.map (·.1),k,())) (.inl ()) (.inr ()) ?_ ?_ ?_
 · grind
 · intro k hk _;have J:k<(ls.map (·.1)).length:=by rw[ae4];exact hk
   have F:(ls.map (·.1))[k]=(ls[k]).1:=au5 _
   have M: ∀f:aY,FK f=some f:=fun f=>rfl;simp only[CZ,dY (show(k)<(ls.length:Int) by omega),cond_true,au J,au hk,F,h.clause _ (ae3 hk),M,ae2,decide_true,Bool.and_self,ae8,cond_false,Fh _ (D _ (ae3 hk)),aw (show k+1<=4611686018427387904 by omega),aH]
 · grind
 · simp[CZ]
theorem ahU (O:eO=some true) (x):Jx x=some true:=by
 obtain⟨⟨⟨p,t,an⟩,m⟩,rfl⟩: ∃y,y=x:=⟨x,rfl⟩;unfold Jx;rcases RE p t an m with⟨A,R,hA,hR,F⟩ |F
 · have hs:=hA.many;have J:=FO A hA R hR;have Z:=S8 A hA R hR;have Y:=TF A hA R hR;simp only[F,O,ae2,ae8,cond_false,Z,Y];by_cases e:400<A.length+(ax A R).length
   · obtain⟨ls,l1,_,_⟩:=Si A hA R hR (ax A R) (Ar A hA R hR);have D:nN (A,R,ax A R)=some ((A.length+(ax A R).length:Nat):Int):=J.2;rw[if_pos e];simp only[ae2,l1,D,dY (show(400:Int)<((A.length+(ax A R).length:Nat):Int) by omega),cond_true,decide_true]
   · rw[if_neg e];obtain⟨ls,h⟩:=Yy A hA R hR (by omega)
     have N:=h.short hA hR (by omega)
     have U:=h.len;have h1:rJ (A,R,ax A R)=some ls:=h.lines;have D:nN (A,R,ax A R)=some ((A.length+(ax A R).length:Nat):Int):=J.2;rw[h.facts,ae2];by_cases e2:8000<ls.length
     · rw[dY (show(8000:Int)<((ls.map (·.1)).length:Int) by rw[ae4];omega),cond_true]
       simp only[ae2,h1,D,dN (show¬(400:Int)<((A.length+(ax A R).length:Nat):Int) by omega),dY (show(8000:Int)<(ls.length:Int) by omega),cond_true,cond_false,decide_true]
     · rw[dN (show¬(8000:Int)<((ls.map (·.1)).length:Int) by rw[ae4];omega),cond_false]
       simp only[ae2,h1,D,J.1,dN (show¬(400:Int)<((A.length+(ax A R).length:Nat):Int) by omega),dN (show¬(8000:Int)<(ls.length:Int) by omega),cond_true,cond_false,decide_true,ae8,h.facts,Yc A hA R hR ls h.facts h.clause h.len,ae4,ak0 ls (by omega),al2 (ls.map (·.2)) (by rw[ae4];omega) (fun x M=>by obtain⟨l,U,rfl⟩:=au0.1 M;exact N l U),amb A R ls h N]
 · obtain⟨x,M,ah⟩:=jj F;simp only[M,O,ae2,ae8,cond_false,ah,as4,cond_true]
theorem Z8 (l:List aV) (t x:aV):x∈eK l t<->x∈l\/x=t:=by
 unfold eK;split
 · exact⟨.inl,fun h=>h.elim id fun e=>e▸ ‹t∈l›⟩
 · rw[as3,at5]
theorem X5 {l:List aV} {t:aV} (h:l.Nodup):(eK l t).Nodup:=by
 unfold eK;split
 · exact h
 · exact nR h ‹_›
theorem Y9 (s:List UInt8) (x:aV): ∀(D:List (List UInt8)) (l:List aV),x∈jk s l D<->x∈l\/ ∃f∈D,x=(s,f)
 |[],l=>⟨.inl,fun h=>h.elim id fun⟨_,h,_⟩=>(av6 h).elim⟩
 |f::t,l=>by
  show x∈jk s (eK l (s,f)) t<->_;rw[Y9 s x t,Z8];constructor
  · rintro((h |h) |⟨g,h,e⟩)
    · exact .inl h
    · exact .inr ⟨f,.head _,h⟩
    · exact .inr ⟨g,.tail _ h,e⟩
  · rintro(h |⟨g,h,e⟩)
    · exact .inl (.inl h)
    · rcases at3.1 h with q |q
      · exact .inl (.inr (q▸e))
      · exact .inr ⟨g,q,e⟩
theorem qq (x:aV): ∀(ns:List al) (l:List aV),x∈eZ l ns<->x∈l\/ ∃n∈ns,Ck x n
 |[],l=>⟨.inl,fun h=>h.elim id fun⟨_,h,_⟩=>(av6 h).elim⟩
 |n::t,l=>by
  show x∈eZ (jk n.1 (eK l (n.1,[])) n.2.2) t<->_;rw[qq x t,Y9,Z8];constructor
  · rintro(((h |h) |⟨g,h,e⟩) |⟨g,h,e⟩)
    · exact .inl h
    · exact .inr ⟨n,.head _,by rw[h];exact⟨rfl,.inl rfl⟩⟩
    · exact .inr ⟨n,.head _,by rw[e];exact⟨rfl,.inr h⟩⟩
    · exact .inr ⟨g,.tail _ h,e⟩
  · rintro(h |⟨g,h,e⟩)
    · exact .inl (.inl (.inl h))
    · rcases at3.1 h with q |q
      · subst q;rcases e with⟨F,D |D⟩
        · exact .inl (.inl (.inr (Prod.ext F D)))
        · exact .inl (.inr ⟨x.2,D,Prod.ext F rfl⟩)
      · exact .inr ⟨g,q,e⟩
theorem XF (s:List UInt8): ∀(D:List (List UInt8)) (l:List aV),l.Nodup->(jk s l D).Nodup
 |[],l,h=>h
 |f::t,l,h=>XF s t _ (X5 h)
theorem QG: ∀(ns:List al) (l:List aV),l.Nodup->(eZ l ns).Nodup
 |[],l,h=>h
 |n::t,l,h=>QG t _ (XF _ _ _ (X5 h))
variable {A:List aq} {R:List al} {choice:List Int} {at_:Nat} {s:List aV×List al}
theorem lq.first (hR:bM R):lq A R choice 0 (eZ [] R,R) where
 once:=QG R [] List.nodup_nil
 named:=fun x F=>((qq x R []).1 F).elim (fun h=>(av6 h).elim) id
 back:=fun n D x F=>(qq x R []).2 (.inr ⟨n,D,F⟩)
 roots:=fun n D=>D
 src:=fun n D=>.inl D
 done:=fun j x h=>absurd h (Nat.not_lt_zero j)
 ind:=fun P h1 h2 x F=>((qq x R []).1 F).elim (fun h=>(av6 h).elim) (fun⟨n,D,e⟩=>h1 n D x e)
 Cn:=hR.many
 place:=ae6 _
abbrev OU:Ty:=.pair vu ml
abbrev sY:SO:=.row 63 OU
abbrev uU:List (Nat×SO):=[(1020,sY)]
abbrev ad3:SO:=.var 134 [bj,bj,bj,bj,sP,iD,iD,.v (.sl s8)]
abbrev Cv:List (Nat×SO):=((3,kO)::(7,ad3)::uU)
abbrev uZ:SS:=.c (.v (.sl ml))
abbrev pU:SS:=.c (.v (.sl OU))
abbrev Cc:SO:=.var 60 (cI::cI::Cf)
abbrev rq:Nat×SS:=(7,.c (.ptr 7 0))
abbrev aeT:List (Nat×SS):=[(2,.c iD),(4,eV),eM,N4,sK]
abbrev Oi:Shape:=⟨(kF::(3,eV)::(4,aW)::eB),[]⟩
abbrev aeO:Nat×bE:=(840,{kf:=[(0,.q [8]),(1,.q [8]),(2,.n 12),(3,.n 13),(4,.u [12] false),(5,.u [13] false)]})
abbrev aew:List (Nat×SS):=[(2,.c iD),(4,eV),eM,N4,sK,(13,.c (.ptr 13 0)),mn]
abbrev BP:Ky:=.u [50] false
abbrev BO:Ky:=.u [89] false
abbrev ael:Shape:=⟨((1,GR)::aeT),[(5,kO),(8,Cc),(61,sY)]⟩
abbrev aem:bE:={cut:=[(.normal,⟨[jv,dp,cK,rq],Cv⟩)]}
abbrev adJ:Shape:=⟨(cE::(3,eV)::(4,aW)::eB),[(1000,dI)]⟩
abbrev adP:Nat×bE:=(58,{loop:=some ⟨(kF::(3,eV)::fe),[]⟩})
abbrev adD:Shape:=⟨(jv::aeT),((5,kO)::(8,Cc)::uU)⟩
abbrev adC:Nat×bE:=(29,{cut:=[(.normal,⟨[(3,eV)],[]⟩)]})
abbrev adH:bE:={cut:=[(.normal,⟨[jv],uU⟩)]}
def ang:FS:=mkG [] [] 331 ⟨[nr,(1,.st vv)],[]⟩ [(false,⟨[(3000004,.st vv)],[]⟩)] fun x=>Mg x.1 x.2.1
def aku:FS:=mkG [WO,ang] [] 232 ⟨[(0,.st BN),(1,.st vv)],[]⟩ di fun x=>Lt x.1 x.2.1
def YD:FS:=mkG [aku] [(13,Ho),(26,{loop:=some ⟨((0,B')::cK::eB),[(3,pX)]⟩}),(3365,{cut:=[(.normal,⟨[(0,B'),cK,(5,aW),(6,gX),(7,gX)],[(3,pX)]⟩)]}),(6730,{loop:=some ⟨((0,B')::cK::(5,aW)::(6,gX)::(7,gX)::nn),[(3,pX)]⟩})] 146 ⟨[(0,B'),(1,.st vv)],[]⟩ di fun x=>FV x.1 x.2.1
def ZL:FS:=mkG [Eh,YD,QE] [(61,{cut:=[(.normal,⟨[(7,.c (.own 56))],[(56,dI)]⟩)]}),(63,{pre:=[.ba 56]}),(122,{pre:=[.dz 7 56 (.row [] 3 eF [])],loop:=some ⟨(gy::cK::(5,B')::(6,gX)::(7,.c (.own 56))::nn),[(3,.var 191 [bj,bj,oN]),(56,dI)]⟩})] 122 ⟨[gy,(1,.st kN)],[]⟩ B9 fun x=>F4 x.1 x.2.1
def Ww:FS:=mkG [ZL] [(61,{cut:=[(.normal,⟨[B1],[(25,dI)]⟩)]}),(63,{pre:=[.ba 25]}),(122,{pre:=[.dz 5 25 (.row [] 3 eF [])],loop:=some ⟨(B1::(6,eV)::iz),[(25,dI)]⟩})] 121 ⟨[sN,(1,.st kN)],[]⟩ B9 fun x=>rK x.1 x.2.1
def YB:FS:=mkG [] [(13,Ho),(26,{loop:=some ⟨(kF::bW::eB),[]⟩})] 216 ⟨[kF,bW],[]⟩ di fun x=>FT x.1 x.2.1
def am9:FS:=mkG [] [] 314 GJ rm fun x=>wA x.1
def W1:FS:=mkG [am9] [] 217 ⟨[nr,bW],[]⟩ di fun x=>EB x.1 x.2.1
def XU:FS:=mkHh [W1,YB] [(29,{cut:=[(.normal,⟨[(3,eV)],[(1000,dI)]⟩)]}),(58,{loop:=some ⟨(cE::(3,eV)::fe),[(1000,dI)]⟩}),(116,{post:=[.ba 41]}),(7462,{cut:=[(.normal,adJ)]}),(14924,{loop:=some adJ})] 120 ⟨[cE],[(1000,dI)]⟩ [(false,⟨[pQ],[(1000,dI)]⟩)] (fun o=>(o.1,o.2.1)) (fun r=>(r.1,r.2,())) (fun _=>rfl) (fun x=>kY x.1)
def JZ:FS:=mkG [] [lI,(26,{loop:=some ⟨(bR::cK::eB),[(2,kO),Hh]⟩})] 33 ⟨(sN::B0),[]⟩ dA fun x=>mz x.1 x.2.1
def af7:FS:=mkG [XU,JZ,Ww] [(13,{cut:=[(.normal,⟨[(1,GR)],[(61,sY)]⟩)]}),(26,{pre:=[.dz 1 61 (.row [] 63 OU [])],loop:=some ael}),aeO,(6734,{ow:=[58],kf:=[(1,.q [12]),(4,BP),(5,oA),(8,bh),ri,(11,BP),(12,BP),(15,.u [61] false)],ps:=[(58,[(1000,50)])]}),(13471,{cut:=[(.normal,ael)]}),(26942,{loop:=some ⟨((1,GR)::aew),[(5,kO),(8,Cc),(13,Cc),(61,sY)]⟩}),(1724307,{ow:=[108],kf:=[(1,.q [15]),(4,BO),(5,oA),(8,bh),ri,(10,bh),(13,bh),(14,bh),(15,bh),(17,bh),(18,bh),(22,BO),(23,BO),(26,.u [61] false)],ps:=[(108,[(1000,89)])]})] 49 ⟨[sN,(1,xt),(2,.c iD),(3,xw),(4,eV)],[]⟩ [(false,⟨[(10,GR)],[(61,sY)]⟩)] fun x=>CM x.1 x.2.1 x.2.2.1 x.2.2.2.1
def aju:FS:=mkG [W1,YB] [adC,adP,(116,{post:=[.ba 41]}),(7462,{cut:=[(.normal,Oi)]}),(14924,{loop:=some Oi})] 120 NX [(false,⟨[pQ],[]⟩)] fun x=>EA x.1
def ag9:FS:=mkG [XU,JZ,Ww] [(13,adH),(26,{loop:=some adD}),aeO,(6734,{ow:=[58],kf:=[(1,.q [12]),(4,BP),(5,oA),(8,bh),ri,(11,BP),(12,BP),(15,oD)],ps:=[(58,[(1000,50)])]}),(13471,{cut:=[(.normal,adD)]}),(26942,{loop:=some ⟨(jv::aew),((5,kO)::(8,Cc)::(13,Cc)::uU)⟩}),(1724307,{ow:=[108],kf:=[(1,.q [15]),(4,BO),(5,oA),(8,bh),ri,(10,bh),(13,bh),(14,bh),(15,bh),(17,bh),(18,bh),(22,BO),(23,BO),(26,oD)],ps:=[(108,[(1000,89)])]})] 49 ⟨[sN,jv,(2,.c iD),(3,xw),(4,eV)],uU⟩ [(false,⟨[(10,.c (.own 1020))],uU⟩)] fun x=>Dm x.1 x.2.1 x.2.2.1 x.2.2.2.1 x.2.2.2.2.1
def K3:FS:=mkG [] [lI,(26,{loop:=some ⟨(dy::bR::eB),[(2,ad3)]⟩})] 72 ⟨[(0,.st xU),dy],[]⟩ dA fun x=>tM x.1 x.2.1
def ah3:FS:=mkG [ag9,ZL,aju,K3] [(29,aem),(30,{ow:=[65],ps:=[(65,[(1020,1020)])]}),(58,{loop:=some ⟨(jv::dp::cK::rq::nn),Cv⟩}),(125,aem),(250,{loop:=some ⟨[jv,dp,cK,rq,nk],Cv⟩}),(253,adH),(506,{loop:=some ⟨[jv,dp,cK,rq,sL],Cv⟩}),(32403,{cut:=[(.normal,⟨[jv,dp,cK,rq,sL],Cv⟩)]}),(64806,{loop:=some ⟨[jv,dp,cK,rq,sL,(13,eV),mn],Cv⟩}),(128159,{ow:=[123],kf:=[(0,dx),(2,.q [7]),(3,.q [7]),(5,bh),(6,bh),(7,bh),(12,oD)],ps:=[(123,[(1020,1020)])]})] 50 ⟨[sN,jv,dp],uU⟩ [(false,⟨[(6,.c (.own 1020))],uU⟩)] fun x=>J9 x.1 x.2.1 x.2.2.1
def ajs:FS:=mkG [] [(29,{cut:=[vd,(.ret,⟨ra,[]⟩)]}),(58,{loop:=some ⟨((5,eV)::(6,eV)::iz),[]⟩})] 123 ⟨((0,xw)::BL),[]⟩ di fun x=>K1 x.1 x.2.1
def ajr:FS:=mkRec [ajs] [(126,{cut:=[(.normal,⟨[(5,.c (.own 64))],[(64,sY)]⟩)]}),(252,{pre:=[.dz 5 64 (.row [] 63 OU [])],loop:=some ⟨((3,pU)::(4,pU)::(5,.c (.own 64))::jU::iz),[(64,sY)]⟩}),(255,{pre:=[.ba 64]})] 51 ⟨[(0,pU)],[]⟩ [(false,⟨[(2,pU)],[]⟩)] (fun o=>o.1) (fun r=>(r,())) (fun _=>rfl) tw (by kernel_rfl) (fun rc ok x=>by kernel_rfl)
def Wp:FS:=mkG [af7,ah3,ajr] [(6,{ow:=[9],ps:=[(9,[(61,9)])]}),(29,{cut:=[(.normal,⟨[(3,.c (.own 9))],[(9,sY)]⟩)]}),(30,{pre:=[.ba 9]}),(58,{loop:=some ⟨(ru::(3,.c (.own 9))::fe),[(1,kO),(9,sY)]⟩}),(932,{ow:=[20],ps:=[(20,[(1020,9)])]})] 14 ⟨[sN],[]⟩ [(false,⟨[(2,pU)],[]⟩)] fun x=>rJ x.1
def PZ:FS:=mkG [] [] 15 ⟨[sN],[]⟩ rm fun x=>nN x.1
def aiO:FS:=mkG [] [(29,{cut:=[(.normal,⟨[B2],[(18,.row 55 ml)]⟩)]}),UU,(58,{pre:=[.dz 3 18 (.row [] 55 ml [])],loop:=some ⟨((0,pU)::B2::fe),[(18,.row 55 ml)]⟩})] 20 ⟨[(0,pU)],[]⟩ [(false,⟨[(2,uZ)],[]⟩)] fun x=>Kz x.1
def akg:FS:=mkG [zB] [(29,Hr),(58,{loop:=some ⟨((0,uZ)::(1,uZ)::eB),[]⟩})] 19 ⟨[(0,uZ),(1,uZ)],[]⟩ di fun x=>Ll x.1 x.2.1
def X7:FS:=mkG [] [] 22 ⟨[(0,xw)],[]⟩ [(false,⟨[(3000002,xw)],[]⟩)] fun x=>FK x.1
def Wh:FS:=mkG [PF,Je,PB,yz,Qq,PS,DQ,X7,zB,akg,aiO,Wp,PZ,YA] [(16381,Ca),(32762,{loop:=some ⟨[(6,uP),(8,pU),(9,oE),sK],[]⟩})] 3 ⟨[B4],[]⟩ gD fun x=>Jx x.1
section
open Go.WideShapes
section
variable {H:Type} {enc:TypeId×Value->H} {W:World} {base:Nat} {sp:Nat->Bool} {held:Bool}
theorem case_open {cs:Array Value} {d:DataW H} {ps:List MemPlace} (h:DataW.Trod enc Tryz.prog W base sp held 26 (.agg cs) d ps):
  ∃(p t m:ByteArray) (J:Value) (U:List (List UInt8)),cs= #[.string p,.string t,J,.string m]/\RowOf 1 StrC W J U:=by
 obtain⟨m,hm⟩:=h;obtain⟨_,_,_,O,F,_,hf⟩:=DataW.trod_struct Tryz.underlying26 hm;obtain⟨l⟩:=cs;have M:l.length=4:=(show l.length=_ from F).trans ach
 obtain⟨a0,D,a2,a3,rfl⟩: ∃a0 D a2 a3,l=[a0,D,a2,a3]:=by
  clear hm F O hf
  match l,M with
  |[a0,D,a2,a3],_=>exact⟨a0,D,a2,a3,rfl⟩
 obtain⟨p,t,m,l,rfl,rfl,rfl,N⟩:=Yj hm;exact⟨p,t,m,a2,l,rfl,N⟩
end
end
section
open Go.WideShapes
theorem encodeFacts_walk (p t m:ByteArray) (J:List (List UInt8)) (D:Value) (w:World) (Y:RowOf 1 StrC w D J) (Z:TabOk w.heap[tabB]?):
  Calls Tryz.prog 3 #[.agg #[.string p,.string t,D,.string m]] w fun e w'=>e=.returned (.bool true)/\Below w.heap.size w w':=by
 have O:Wh.F _ (((p.data.toList,t.data.toList,J),m.data.toList),()) some=some (true,()):=by show(Jx _).bind _=_;rw[ahU ET _];rfl
 obtain⟨o,h1,h2⟩:=Wh.ok _ _ _ _ O;have M:=(Option.some.inj h1);subst M;have N:fo Tryz.prog 3 [.agg [.v .str p.data.toList,.v .str t.data.toList,.v (.sl .str) J,.v .str m.data.toList]] [] (.ret (.c (.v .bool true)) []):=h2;refine(N.run (A:=fun b _=>b<w.heap.size) (w:=w) (vals:=[.agg #[.string p,.string t,D,.string m]]) (fun _ _ q=>q) Z (.cons ⟨[.string p,.string t,D,.string m],rfl,.cons (jH p) (.cons (jH t) (.cons (EW Y) (.cons (jH m) .nil)))⟩ (.nil))).mono ?_;rintro e w' ⟨x,c',rfl,U,hx⟩;exact⟨by rw[sc hx (v:=.bool true) rfl],U.below⟩
end
end
end Go.Proofs.YtejhifnjgoclpaaGreatDoor.Fx
