/- Parts of the proofs, put together by a program. -/
import Derived.Test.YtejhifnjgoclpaaGreatDoorS30
set_option linter.unusedVariables false
set_option linter.unusedSimpArgs false
set_option linter.unusedSectionVars false
open Option renaming bind_some->ae2,map_some->av9
open List renaming getElem_mem->ae3,length_map->ae4,getElem?_eq_getElem->ae9,length_append->as0,mem_append->as3,append_nil->at0,mem_cons->at3,map_append->at4,mem_singleton->at5,length_take->at6,append_assoc->at8,mem_map->au0,take_length->au3,length_drop->au4,getElem_map->au5,length_singleton->au7,getElem_of_mem->au8,length_pos_iff->av5,not_mem_nil->av6,getElem?_eq_some_iff->av7,foldl_cons->aw6,length_set->aw7,getD_eq_getElem?_getD->aw8,pairwise_iff_getElem->ax7,any_eq_true->ax9,getElem?_eq_none->ay2,map_cons->ay3,length_replicate->ay4,mem_filter->ay8,any_eq_false->aA1
open Nat renaming le_refl->ae5,zero_le->ae6,le_trans->au2,lt_trichotomy->ay7,not_lt_zero->az4
open Bool renaming and_eq_true->ae7,not_true->ae8,not_false->as4,eq_false_or_eq_true->av8,eq_false_iff->az6
open Int renaming toNat_natCast->as1,lt_irrefl->as2
namespace Go.Proofs.YtejhifnjgoclpaaGreatDoor
open Go.RowKit Go.ChangeShapes Go.WideShapes Go.Deep
theorem RowOf.shape {α:Type} {n:Nat} {R:World->List Value->α->Prop} {w:World} {v:Value} {l:List α} (h:RowOf n R w v l): ∃a cap,v=.slice a l.length cap:=by
 rcases h with⟨a,cap,rfl,rfl,_⟩ |⟨b,off,cap,rfl,_⟩
 · exact⟨_,_,rfl⟩
 · exact⟨_,_,rfl⟩
section
variable {H:Type} {enc:TypeId×Value->H} {P:Program} {w:World} {base:Nat} {spare:Nat->Bool} {held:Bool}
theorem rowOf_open {α:Type} [Inhabited α] {R:World->List Value->α->Prop} {t e:TypeId} {n:Nat} {a:Option Addr} {len cap:Nat} {d:DataW H} {p:List MemPlace} (M:P.underlying t=some (.slice e)) (hC:P.cellsOf e=n) (J:0<n)
  (hR: ∀m cs y,DataW.trod enc P w base spare held m e cs=some y-> ∃x:α,R w cs x)
  (h:DataW.Trod enc P w base spare held t (.slice a len cap) d p): ∃l:List α,RowOf n R w (.slice a len cap) l/\l.length=len:=by
 obtain⟨fuel,hf⟩:=h;obtain⟨v,l,F,D⟩:=Xk M hC J hR hf;simp [Value.cells] at F;subst F;obtain⟨N,O,he⟩:=D.shape;simp only[Value.slice.injEq] at he;exact⟨l,D,he.2.1.symm⟩
end
end Go.Proofs.YtejhifnjgoclpaaGreatDoor
namespace Go.Proofs.YtejhifnjgoclpaaGreatDoor.Fx
open Go.RowKit
set_option maxRecDepth 1000000
noncomputable section
abbrev rD:=List (iw×Bool)
abbrev uL:=bK×aK×Int
abbrev Ib:=Option (aA×Bool×uL)
abbrev gW:=List Bool
abbrev pM:=bK×aK×eD
abbrev NM:=eE×aA×aD×aS×bF×rD×Unit
abbrev Bz:=aS×aK×Unit
abbrev adf:=Lp (bK×aA×Int×Bz) (bK×aA×Bz⊕eD)
abbrev adb:=Option (eE×aA×aD×aS×bF×rD)
abbrev UC:=aA->uL->Ib
abbrev adi:=eE×aD×aS×bF×rD×gV
def Mg (op:Int) (v:pN):Option pN:=let D:Option pN:=bif decide (op=6) then J (aa .i64 (v.2.1+1))<|some (v.1,(v.2.1+1),0,[]) else bif decide (0<v.2.1) then J (aa .i64 (v.2.1+1))<|some (v.1,(v.2.1+1),0,[]) else J (aa .i64 (v.2.2.1+1))<|some (v.1,v.2.1,(v.2.2.1+1),[]);bif decide (op=7) then bif decide (0<v.1) then J (aa .i64 (v.1+1))<|some ((v.1+1),0,0,[]) else D else D
def Lt (c:Int×pN) (v:pN):bz:=(tA v c.2).bind fun D=>bif decide (c.1=0) then some (decide (D=0)) else bif decide (c.1=1) then some (!decide (D=0)) else bif decide (c.1=2) then some (decide (D<0)) else bif decide (c.1=3) then some (decide (D<=0)) else bif decide (c.1=4) then some (decide (0<D)) else bif decide (c.1=5) then some (decide (0<=D)) else bif decide (c.1=8) then some true else bif decide (0<=D) then(Mg c.1 c.2).bind fun end_=>(tA v end_).bind fun F=>some (decide (F<0)) else some false
def Fc:Lp (kM×Int×Bool×Bool×Int×oI) (kM×Int×Bool×Bool×oI):=fun(Y,U,av,ar,D,N,O,M,Z,_)=>let ah:Option (kM×Int×Bool×Bool×Int×oI⊕kM×Int×Bool×Bool×oI):=J (aa .i64 (D+1))<|some (.inl (Y,U,false,ar,(D+1),N,O,M,Z,()));let an:Bool->Option (kM×Int×Bool×Bool×Int×oI⊕kM×Int×Bool×Bool×oI):=fun holds=>J (aa .i64 (D+1))<|some (.inl (Y,U,holds,ar,(D+1),N,O,M,Z,()));(ag Y U).bind fun az=>bif decide (D<(az.length:Int)) then(ag Y U).bind fun aE=>(ag aE D).bind fun F=>bif av then(Lt F (N,O,M,Z)).bind fun holds=>bif decide (0<(F.2.2.2.2.length:Int)) then bif decide (F.2.1=N) then bif decide (F.2.2.1=O) then bif decide (F.2.2.2.1=M) then J (aa .i64 (D+1))<|some (.inl (Y,U,holds,true,(D+1),N,O,M,Z,())) else an holds else an holds else an holds else an holds else bif decide (0<(F.2.2.2.2.length:Int)) then bif decide (F.2.1=N) then bif decide (F.2.2.1=O) then bif decide (F.2.2.2.1=M) then J (aa .i64 (D+1))<|some (.inl (Y,U,false,true,(D+1),N,O,M,Z,())) else ah else ah else ah else ah else some (.inr (Y,U,av,ar,N,O,M,Z,()))
def Lu:Lp (kM×Int×oI) jq:=fun(Z,Y,x3,an,ar,U,_)=>bif decide (Y<(Z.length:Int)) then(ab Fc (Z,Y,true,decide ((U.length:Int)=0),0,x3,an,ar,U,())).bind fun(ah,D,av,az,F,M,N,O,_)=>bif av then bif az then some (.inr (.inr (()))) else J (aa .i64 (D+1))<|some (.inl (ah,(D+1),F,M,N,O,())) else J (aa .i64 (D+1))<|some (.inl (ah,(D+1),F,M,N,O,())) else some (.inr (.inl (())))
def FV (x:kM) (D:pN):bz:=(ab Lu (x,0,D.1,D.2.1,D.2.2.1,D.2.2.2,())).bind fun o=>match o with|.inl (_)=>some false|.inr (_)=>some true
def DE:Lp (Int×bK×aK×aS×ae×p5) jr:=fun(i,D,U,F,M,N,_)=>bif decide (i<(F.length:Int)) then(ag F i).bind fun O=>bif (decide (O.1=M)&&decide (O.2=N)) then J (aa .i64 ((D.length:Int)+i))<|J (aa .i64 (((D.length:Int)+i)+1))<|some (.inr (.inr ((((D.length:Int)+i)+1),()))) else J (aa .i64 (i+1))<|some (.inl ((i+1),D,U,F,M,N,())) else some (.inr (.inl (())))
def mz (c:mY) (t:iw):bH:=(ab DE (0,c.1,c.2.1,c.2.2,t.1,t.2,())).bind fun o=>match o with|.inl (_)=>some 0|.inr (D,_)=>some D
def Ey:Lp (ae×Int×ae×ae×ae×ae×Bool×aK×aK×oK×Unit) jr:=fun(F,i,M,N,O,U,Y,Z,ah,D,_)=>bif decide (i<(D.length:Int)) then(ag D i).bind fun an=>bif decide (an.1=F) then some (.inr (.inr (i,()))) else J (aa .i64 (i+1))<|some (.inl (F,(i+1),M,N,O,U,Y,Z,ah,D,())) else some (.inr (.inl (())))
def tM (e:xR) (s:ae):bH:=(ab Ey (s,0,e.1,e.2.1,e.2.2.1,e.2.2.2.1,e.2.2.2.2.1,e.2.2.2.2.2.1,e.2.2.2.2.2.2.1,e.2.2.2.2.2.2.2,())).bind fun o=>match o with|.inl (_)=>some (-1)|.inr (D,_)=>some D
def nN (c:mY):bH:=J (aa .i64 ((c.1.length:Int)+(c.2.2.length:Int)))<|some ((c.1.length:Int)+(c.2.2.length:Int))
def oW (c:xj):Option (Ux×cS×mY×Unit⊕Ux×mY×Unit):=(vJ c).bind fun read=>bif !read.2 then some (.inr (read.1,([],[],[]),())) else(FR read.1.2.2.1 read.1.2.2.2).bind fun new=>(zF read.1.1 read.1.2.1).bind fun o=>match o with|.inl (D,F,_)=>bif !decide (F=0) then some (.inr (read.1,new,())) else some (.inl (read.1,D,new,()))|.inr (J,_)=>bif !decide (J=0) then some (.inr (read.1,new,())) else some (.inr (read.1,new,()))
def AE (lit:Int):bH:=J (aa .i64 (0 - lit))<|some (if(0 - lit)>lit then(0 - lit) else lit)
def wk (lit:Int) (model:gW):bz:=(AE lit).bind fun var=>bif decide (1<=var) then bif decide (var<=(model.length:Int)) then J (aa .i64 (var - 1))<|(ag model (var - 1)).bind fun D=>some (D==(decide (0<lit))) else some (false==(decide (0<lit))) else some (false==(decide (0<lit)))
def yq:Lp (aS×Int×GH) jr:=fun(F,U,D,M,N,_)=>bif decide (D<U) then(ag F D).bind fun O=>bif (decide (M=O.1)&&decide (N=O.2)) then some (.inr (.inr (D,()))) else J (aa .i64 (D+1))<|some (.inl (F,U,(D+1),M,N,())) else some (.inr (.inl (())))
def PO (s:aS) (v:iw):bH:=(ab yq (s,(s.length:Int),0,v.1,v.2,())).bind fun o=>match o with|.inl (_)=>some (-1)|.inr (D,_)=>some D
def IZ (s:aS) (v:iw):bz:=(PO s v).bind fun index=>some (decide (0<=index))
def CN:Lp (bF×Int×Int×aD×Int×Int×ae×jY×aD×NM) (bF×Int×Int×NM):=fun(aE,an,ar,av,az,F,D,a1,a6,U,Y,Z,M,ah,O,_)=>bif decide (F<az) then(ag av F).bind fun N=>(IZ M (D,N)).bind fun a7=>bif !a7 then J (M.length+([(D,N)]:aS).length<=1000000000)<|J (O.length+([((D,N),false)]:rD).length<=1000000000)<|J (aa .i64 (F+1))<|some (.inl (aE,an,ar,av,az,(F+1),D,a1,a6,U,Y,Z,(M++([(D,N)]:aS)),ah,(O++([((D,N),false)]:rD)),())) else J (aa .i64 (F+1))<|some (.inl (aE,an,ar,av,az,(F+1),D,a1,a6,U,Y,Z,M,ah,O,())) else some (.inr (aE,an,ar,U,Y,Z,M,ah,O,()))
def IP:Lp (bF×Int×Int×NM) NM:=fun(x9,ah,O,Y,Z,F,U,M,N,_)=>bif decide (O<ah) then(ag x9 O).bind fun D=>J (M.length+([D]:bF).length<=1000000000)<|(p8 F D.1).bind fun av=>bif !av then J (F.length+([D.1]:aD).length<=1000000000)<|J (N.length+([((D.1,[]),true)]:rD).length<=1000000000)<|(ab CN (x9,ah,O,D.2.2,(D.2.2.length:Int),0,D.1,D.2.1,D.2.2,Y,Z,(F++([D.1]:aD)),U,(M++([D]:bF)),(N++([((D.1,[]),true)]:rD)),())).bind fun(a7,a1,an,az)=>J (aa .i64 (an+1))<|some (.inl (a7,a1,(an+1),az)) else(ab CN (x9,ah,O,D.2.2,(D.2.2.length:Int),0,D.1,D.2.1,D.2.2,Y,Z,F,U,(M++([D]:bF)),N,())).bind fun(a8,a6,ar,aE)=>J (aa .i64 (ar+1))<|some (.inl (a8,a6,(ar+1),aE)) else some (.inr (Y,Z,F,U,M,N,()))
def vz (D:bF) (o:eE) (l:aA) (F:aD) (J:aS) (M:bF) (N:rD):adb:=(ab IP (D,(D.length:Int),0,o,l,F,J,M,N,())).bind fun(O,U,Y,Z,ah,an,_)=>some (O,U,Y,Z,ah,an)
def yR:Lp (eE×ae×uH) jr:=fun(F,M,U,N,D,_)=>bif decide (D<N) then(ag U D).bind fun O=>bif decide (0<=O) then bif decide (O<(F.length:Int)) then(ag F O).bind fun Y=>bif decide (Y.1.1=M) then some (.inr (.inr (O,()))) else J (aa .i64 (D+1))<|some (.inl (F,M,U,N,(D+1),())) else J (aa .i64 (D+1))<|some (.inl (F,M,U,N,(D+1),())) else J (aa .i64 (D+1))<|some (.inl (F,M,U,N,(D+1),())) else some (.inr (.inl (())))
def Ko (D:eE) (choice:aA) (s:ae):bH:=(ab yR (D,s,choice,(choice.length:Int),0,())).bind fun o=>match o with|.inl (_)=>some (-1)|.inr (F,_)=>some F
def I4 (t:iw×Bool) (o:eE) (l:aA) (F:aD) (J:aS) (M:bF) (N:rD):adb:=(Ko o l t.1.1).bind fun gH=>bif decide (gH<0) then some (o,l,F,J,M,N) else bif t.2 then(ag o gH).bind fun ah=>(vz ah.1.2.2.2.2.2.2.1 o l F J M N).bind fun meet=>some (meet.1,meet.2.1,meet.2.2.1,meet.2.2.2.1,meet.2.2.2.2.1,meet.2.2.2.2.2) else(ag o gH).bind fun U=>(qb U.1 t.1.2).bind fun O=>bif decide (0<=O) then(ag o gH).bind fun Y=>(ag Y.1.2.2.2.2.2.2.2 O).bind fun Z=>(vz Z.2 o l F J M N).bind fun D=>some (D.1,D.2.1,D.2.2.1,D.2.2.2.1,D.2.2.2.2.1,D.2.2.2.2.2) else some (o,l,F,J,M,N)
def DH:Lp (Int×adi) adi:=fun(at_,U,M,N,O,D,F,_)=>bif decide (at_<(D.length:Int)) then J (0<=at_/\at_<D.length)<|(D[at_.toNat]?).bind fun y=>(I4 y U F M N O D).bind fun next=>J (aa .i64 (at_+1))<|some (.inl ((at_+1),next.1,next.2.2.1,next.2.2.2.1,next.2.2.2.2.1,next.2.2.2.2.2,next.2.1,())) else some (.inr (U,M,N,O,D,F,()))
def Kn (D:eE) (roots:bF) (l:aA):Option (aA×eE×rD×bF×aS×aD):=(vz roots D l [] [] [] []).bind fun meet=>(ab DH (0,meet.1,meet.2.2.1,meet.2.2.2.1,meet.2.2.2.2.1,meet.2.2.2.2.2,meet.2.1,())).bind fun(U,J,M,N,O,F,_)=>some (F,U,O,N,M,J)
def KL (D:eE) (roots:bF) (l:aA):Option ((aD×aS)×aA):=(Kn D roots l).bind fun walk=>some ((walk.2.2.2.2.2,walk.2.2.2.2.1),walk.1)
def CO (i:Int) (F:aD) (M:cS):bz:=(ag M.1 i).bind fun J=>(p8 F J.1.1).bind fun D=>some (!D)
def Im:Lp (aA×aD×cS×iP) jr:=fun(N,F,M,O,D,_)=>bif decide (D<O) then(ag N D).bind fun U=>(CO U F M).bind fun choice=>bif choice then some (.inr (.inr (D,()))) else J (aa .i64 (D+1))<|some (.inl (N,F,M,O,(D+1),())) else some (.inr (.inl (())))
def O9 (s:aA) (f:aD) (D:cS):bH:=(ab Im (s,f,D,(s.length:Int),0,())).bind fun o=>match o with|.inl (_)=>some (-1)|.inr (F,_)=>some F
def Il:Lp (aD×cS×xn) xl:=fun(M,N,D,j,F,_)=>bif decide (j<(F.length:Int)) then J (0<=j/\j<F.length)<|(F[j.toNat]?).bind fun y=>(CO y M N).bind fun choice=>bif !choice then J (0<=D/\D<F.length)<|(F[D.toNat]?).bind fun q=>J (aa .i64 (D+1))<|J (aa .i64 (j+1))<|some (.inl (M,N,(D+1),(j+1),(F.set D.toNat y),())) else J (aa .i64 (j+1))<|some (.inl (M,N,D,(j+1),F,())) else some (.inr (D,F,()))
def Iq (del:aD) (N:cS) (l:aA):nh:=(O9 l del N).bind fun M=>bif decide (M=(-1)) then some l else J (aa .i64 (M+1))<|(ab Il (del,N,M,(M+1),l,())).bind fun(D,F,_)=>J (0<=D/\D<=(F.length:Int)/\0<F.length)<|J True<|J (0<=D/\D<=((F.take D.toNat++List.replicate (F.length - D.toNat) 0).length:Int)/\0<(F.take D.toNat++List.replicate (F.length - D.toNat) 0).length)<|some ((F.take D.toNat++List.replicate (F.length - D.toNat) 0).take D.toNat)
def CW:Lp (gW×Int×Int×cS×gV) (cS×gV):=fun(N,O,D,M,F,_)=>bif decide (D<O) then J (aa .i64 (D+1))<|(wk (D+1) N).bind fun U=>bif U then J (F.length+([D]:aA).length<=1000000000)<|J (aa .i64 (D+1))<|some (.inl (N,O,(D+1),M,(F++([D]:aA)),())) else J (aa .i64 (D+1))<|some (.inl (N,O,(D+1),M,F,())) else some (.inr (M,F,()))
def Dd (c:cS) (values:gW):nh:=(ab CW (values,(c.1.length:Int),0,c,[],())).bind fun(D,F,_)=>(KL D.1 D.2.1 F).bind fun reach=>J (F.length=reach.2.length)<|(Iq reach.1.1 D reach.2).bind fun delete=>some delete
def zh:Lp (Int×ae×ae×jz) (ae×ae×jz⊕jz):=fun(i,F,M,D,_)=>bif decide (i<(D.length:Int)) then J (0<=i/\i<D.length)<|(D[i.toNat]?).bind fun y=>bif (decide (y.1=F)&&decide (y.2=M)) then some (.inr (.inr (D,()))) else J (aa .i64 (i+1))<|some (.inl ((i+1),F,M,D,())) else some (.inr (.inl (F,M,D,())))
def vX (t:iw) (l:aS):Bs:=(ab zh (0,t.1,t.2,l,())).bind fun N=>match N with|.inl (F,M,D,_)=>J (D.length+([(F,M)]:aS).length<=1000000000)<|some (D++([(F,M)]:aS))|.inr (O,_)=>some O
def PE:Lp (aK×Int×Int×pP) (aK×Int×pP):=fun(F,D,k,M,N,_)=>(ag F D).bind fun U=>bif decide (k<(U.2.2.length:Int)) then(ag F D).bind fun Y=>(ag F D).bind fun Z=>(ag Z.2.2 k).bind fun ah=>(vX (Y.1,ah) N).bind fun O=>J (aa .i64 (k+1))<|some (.inl (F,D,(k+1),M,O,())) else some (.inr (F,D,M,N,()))
def PD:Lp (aK×Int×pP) pP:=fun(D,i,F,N,_)=>bif decide (i<(D.length:Int)) then(ag D i).bind fun O=>J (F.length+([O]:aK).length<=1000000000)<|(ag D i).bind fun ah=>(vX (ah.1,[]) N).bind fun met=>(ab PE (D,i,0,(F++([O]:aK)),met,())).bind fun(U,M,Y,Z,_)=>J (aa .i64 (M+1))<|some (.inl (U,(M+1),Y,Z,())) else some (.inr (F,N,()))
def Jk (l:aK):Option (aK×aS):=(ab PD (l,0,[],[],())).bind fun(D,F,_)=>some (D,F)
def yZ:Lp (bK×aA×lu) jr:=fun(D,F,M,i,_)=>bif decide (i<(F.length:Int)) then(ag F i).bind fun N=>bif decide (0<=N) then bif decide (N<(D.length:Int)) then(ag D N).bind fun O=>bif decide (O.1.1=M) then some (.inr (.inr (N,()))) else J (aa .i64 (i+1))<|some (.inl (D,F,M,(i+1),())) else J (aa .i64 (i+1))<|some (.inl (D,F,M,(i+1),())) else J (aa .i64 (i+1))<|some (.inl (D,F,M,(i+1),())) else some (.inr (.inl (())))
def qj (D:bK) (choice:aA) (s:ae):bH:=(ab yZ (D,choice,s,0,())).bind fun o=>match o with|.inl (_)=>some (-1)|.inr (F,_)=>some F
def LR (D:bK) (choice:aA) (t:iw):Option aK:=(qj D choice t.1).bind fun gH=>bif decide (gH<0) then some [] else bif decide (t.2=[]) then(ag D gH).bind fun J=>some J.1.2.2.2.2.2.2.1 else(ag D gH).bind fun M=>(tM M.1 t.2).bind fun F=>bif decide (F<0) then some [] else(ag D gH).bind fun N=>(ag N.1.2.2.2.2.2.2.2 F).bind fun O=>some O.2
def yE:Lp (aK×Int×Int×Bz) (aK×Int×Bz):=fun(F,D,k,M,N,_)=>(ag F D).bind fun U=>bif decide (k<(U.2.2.length:Int)) then(ag F D).bind fun Y=>(ag F D).bind fun Z=>(ag Z.2.2 k).bind fun ah=>(vX (Y.1,ah) M).bind fun O=>J (aa .i64 (k+1))<|some (.inl (F,D,(k+1),O,N,())) else some (.inr (F,D,M,N,()))
def yD:Lp (aK×Int×Bz) Bz:=fun(D,i,N,F,_)=>bif decide (i<(D.length:Int)) then(ag D i).bind fun O=>J (F.length+([O]:aK).length<=1000000000)<|(ag D i).bind fun ah=>(vX (ah.1,[]) N).bind fun met=>(ab yE (D,i,0,met,(F++([O]:aK)),())).bind fun(U,M,Y,Z,_)=>J (aa .i64 (M+1))<|some (.inl (U,(M+1),Y,Z,())) else some (.inr (N,F,()))
def yK (l:aK) (D:aS) (F:aK):Option (aS×aK):=(ab yD (l,0,D,F,())).bind fun(J,M,_)=>some (J,M)
def D':Lp (bK×aA×Int×pP) pP:=fun(F,M,at_,O,D,_)=>bif decide (at_<(D.length:Int)) then J (0<=at_/\at_<D.length)<|(D[at_.toNat]?).bind fun y=>(LR F M y).bind fun from_=>(yK from_ D O).bind fun N=>J (aa .i64 (at_+1))<|some (.inl (F,M,(at_+1),N.2,N.1,())) else some (.inr (O,D,()))
def tF (D:bK) (roots:aK) (choice:aA):Option (aS×aK):=(Jk roots).bind fun meet=>(ab D' (D,choice,0,meet.1,meet.2,())).bind fun(F,J,_)=>some (J,F)
def Dq:Lp (Int×aS×aK×jS) jS:=fun(i,D,M,F,_)=>bif decide (i<(D.length:Int)) then(ag D i).bind fun O=>bif decide (O.2=[]) then(ag D i).bind fun N=>J (F.length+([N.1]:aD).length<=1000000000)<|J (aa .i64 (i+1))<|some (.inl ((i+1),D,M,(F++([N.1]:aD)),())) else J (aa .i64 (i+1))<|some (.inl ((i+1),D,M,F,())) else some (.inr (F,()))
def yN (t:aS×aK):xk:=(ab Dq (0,t.1,t.2,[],())).bind fun(D,_)=>some D
def wq (span:ae) (v:ae):bz:=(zU span).bind fun parse=>(qn v).bind fun D=>bif parse.2 then bif D.2 then(FV parse.1 D.1).bind fun has=>some has else some false else some false
def y5:Lp (bK×aA×Int×aK×eD) (bK×sI⊕Unit):=fun(D,F,M,l,k,_)=>bif decide (k<(l.length:Int)) then(ag l k).bind fun N=>(qj D F N.1).bind fun gH=>bif decide (0<=gH) then(ag l k).bind fun O=>(ag D gH).bind fun U=>(wq O.2.1 U.1.2.1).bind fun has=>bif has then some (.inr (.inr (()))) else J (aa .i64 (k+1))<|some (.inl (D,F,M,l,(k+1),())) else J (aa .i64 (k+1))<|some (.inl (D,F,M,l,(k+1),())) else some (.inr (.inl (D,F,M,())))
def vM:Lp (bK×sI) jq:=fun(F,D,i,_)=>bif decide (i<(D.length:Int)) then(ag D i).bind fun U=>(ag F U).bind fun Y=>(ab y5 (F,D,i,Y.1.2.2.2.2.2.1,0,())).bind fun o=>match o with|.inl (N,O,M,_)=>J (aa .i64 (M+1))<|some (.inl (N,O,(M+1),()))|.inr (_)=>some (.inr (.inr (()))) else some (.inr (.inl (())))
def Ez (D:bK) (choice:aA):bz:=(ab vM (D,choice,0,())).bind fun F=>match F with|.inl (_)=>some false|.inr (_)=>some true
def yP:Lp (aA×Int×aS×aK×pM) (aA×aS×aK×pM⊕pM):=fun(U,D,Y,M,F,N,O,_)=>bif decide (D<(M.length:Int)) then(ag M D).bind fun Z=>(qj F U Z.1).bind fun gH=>bif decide (0<=gH) then(ag M D).bind fun ah=>(ag F gH).bind fun an=>(wq ah.2.1 an.1.2.1).bind fun has=>bif !has then some (.inr (.inr (F,N,O,()))) else J (aa .i64 (D+1))<|some (.inl (U,(D+1),Y,M,F,N,O,())) else J (aa .i64 (D+1))<|some (.inl (U,(D+1),Y,M,F,N,O,())) else some (.inr (.inl (U,Y,M,F,N,O,())))
def yO:Lp (aA×Int×aS×aK×pM) (aA×pM⊕pM):=fun(U,D,M,Y,F,N,O,_)=>bif decide (D<(M.length:Int)) then(ag M D).bind fun ar=>(qj F U ar.1).bind fun Z=>bif decide (0<=Z) then(ag M D).bind fun av=>bif !decide (av.2=[]) then(ag F Z).bind fun az=>(ag M D).bind fun an=>(tM az.1 an.2).bind fun ah=>bif decide (ah<0) then some (.inr (.inr (F,N,O,()))) else J (aa .i64 (D+1))<|some (.inl (U,(D+1),M,Y,F,N,O,())) else J (aa .i64 (D+1))<|some (.inl (U,(D+1),M,Y,F,N,O,())) else J (aa .i64 (D+1))<|some (.inl (U,(D+1),M,Y,F,N,O,())) else some (.inr (.inl (U,F,N,O,())))
def Kh (F:aA) (o:uL):Option (Bool×uL):=(tF o.1 o.2.1 F).bind fun reach=>(ab yP (F,0,reach.1,reach.2,o.1,o.2.1,o.2.2,())).bind fun M=>match M with|.inl (a6,a8,bb,N,O,U,_)=>((ab yO (a6,0,a8,bb,N,O,U,())).bind fun Y=>match Y with|.inl (a7,D,Z,ah,_)=>(Ez D a7).bind fun J=>some (J,(D,Z,ah))|.inr (an,ar,av,_)=>some (true,(an,ar,av)))|.inr (az,aE,a1,_)=>some (true,(az,aE,a1))
def Kg:Lp (aA×uH) (aA×uH):=fun(M,N,F,D,_)=>bif decide (0<D) then J (aa .i64 (D - 1))<|(ag N (D - 1)).bind fun O=>(ag M F).bind fun U=>bif decide (U<O) then J (aa .i64 (D - 1))<|some (.inl (M,N,F,(D - 1),())) else some (.inr (M,N,F,D,())) else some (.inr (M,N,F,D,()))
def DV:Lp (aA×sI) gV:=fun(U,N,i,_)=>bif decide (i<(U.length:Int)) then(ab Kg (U,N,i,(N.length:Int),())).bind fun(Y,D,M,F,_)=>J (0<=(0:Int)/\(0:Int)<=F/\F<=D.length)<|J (((D.take F.toNat).drop (0:Int).toNat).length<=1000000000)<|(ag Y M).bind fun O=>J (((D.take F.toNat).drop (0:Int).toNat).length+([O]:aA).length<=1000000000)<|J (0<=F/\F<=(D.length:Int)/\(D.length:Int)<=D.length)<|J ((((D.take F.toNat).drop (0:Int).toNat)++([O]:aA)).length+((D.take (D.length:Int).toNat).drop F.toNat).length<=1000000000)<|J (aa .i64 (M+1))<|some (.inl (Y,((((D.take F.toNat).drop (0:Int).toNat)++([O]:aA))++((D.take (D.length:Int).toNat).drop F.toNat)),(M+1),())) else some (.inr (N,()))
def K2 (l:aA):nh:=(ab DV (l,[],0,())).bind fun(D,_)=>some D
def JQ (rc:UC):Lp (aA×aD×ae×Int×pM) (aA×ae×pM):=fun(M,N,Y,D,F,O,U,_)=>bif decide (0<=D) then(ag N D).bind fun Z=>(qj F M Z).bind fun gH=>bif decide (gH<0) then(ag N D).bind fun ah=>J (aa .i64 (D - 1))<|some (.inl (M,N,ah,(D - 1),F,O,U,())) else J (aa .i64 (D - 1))<|some (.inl (M,N,Y,(D - 1),F,O,U,())) else some (.inr (M,Y,F,O,U,()))
def qc (rc:UC):Lp (aA×ae×Int×pM) (pM⊕aA×pM):=fun(N,Y,F,M,O,U,_)=>bif decide (F<(M.length:Int)) then(ag M F).bind fun Z=>bif !decide (Z.1.1=Y) then J (aa .i64 (F+1))<|some (.inl (N,Y,(F+1),M,O,U,())) else J (N.length<=1000000000)<|J (N.length+([F]:aA).length<=1000000000)<|(rc (N++([F]:aA)) (M,O,U)).bind fun D=>bif D.2.1 then some (.inr (.inr (D.1,D.2.2.1,D.2.2.2.1,D.2.2.2.2,()))) else J (aa .i64 (F+1))<|some (.inl (N,Y,(F+1),D.2.2.1,D.2.2.2.1,D.2.2.2.2,())) else some (.inr (.inl (M,O,U,())))
def yL (rc:UC) (D:aA) (o:uL):Ib:=J (aa .i64 (o.2.2 - 1))<|bif decide ((o.2.2 - 1)<0) then some ([],false,(o.1,o.2.1,(o.2.2 - 1))) else(Kh D (o.1,o.2.1,(o.2.2 - 1))).bind fun bad=>bif bad.1 then some ([],false,bad.2) else(tF bad.2.1 bad.2.2.1 D).bind fun reach=>(yN reach).bind fun names=>J (aa .i64 ((names.length:Int) - 1))<|(ab (JQ rc) (D,names,[],((names.length:Int) - 1),bad.2.1,bad.2.2.1,bad.2.2.2,())).bind fun(O,U,F,M,N,_)=>bif decide (U=[]) then(K2 O).bind fun sorted=>some (sorted,true,(F,M,N)) else(ab (qc rc) (O,U,0,F,M,N,())).bind fun Y=>match Y with|.inl (Z,ah,an,_)=>some ([],false,(Z,ah,an))|.inr (aE,ar,av,az,_)=>some (aE,true,(ar,av,az))
def nL (rc:aA×uL×Unit->Ib):aA×uL×Unit->Ib:=fun x=>yL (fun a0 D=>rc (a0,D,())) x.1 x.2.1
def WJ (a0:aA) (D:uL):Ib:=ou nL (a0,D,())
def Lk (F:bK) (roots:aK) (J:Int):Option (aA×Bool×Bool):=(WJ [] (F,roots,J)).bind fun D=>some (D.1,D.2.1,decide (0<=D.2.2.2.2))
def zP:Lp (bK×aK×sI) (bK×aK×gV⊕eD):=fun(M,O,F,D,_)=>bif decide (D<(F.length:Int)) then(ag F D).bind fun N=>bif decide (N<0) then some (.inr (.inr (1,()))) else bif decide ((M.length:Int)<=N) then some (.inr (.inr (1,()))) else bif decide (0<D) then J (aa .i64 (D - 1))<|(ag F (D - 1)).bind fun U=>bif decide (N<=U) then some (.inr (.inr (1,()))) else(ag M N).bind fun Y=>J (aa .i64 (D - 1))<|(ag F (D - 1)).bind fun Z=>(ag M Z).bind fun ah=>bif decide (Y.1.1=ah.1.1) then some (.inr (.inr (1,()))) else J (aa .i64 (D+1))<|some (.inl (M,O,F,(D+1),())) else J (aa .i64 (D+1))<|some (.inl (M,O,F,(D+1),())) else some (.inr (.inl (M,O,F,())))
def zO:adf:=fun(M,N,D,O,F,_)=>bif decide (D<(F.length:Int)) then(ag F D).bind fun U=>(qj M N U.1).bind fun gH=>bif decide (gH<0) then some (.inr (.inr (2,()))) else(ag F D).bind fun Y=>(ag M gH).bind fun Z=>(wq Y.2.1 Z.1.2.1).bind fun has=>bif !has then some (.inr (.inr (2,()))) else J (aa .i64 (D+1))<|some (.inl (M,N,(D+1),O,F,())) else some (.inr (.inl (M,N,O,F,())))
def zN:adf:=fun(M,N,D,F,O,_)=>bif decide (D<(F.length:Int)) then(ag F D).bind fun Z=>(qj M N Z.1).bind fun U=>(ag F D).bind fun ah=>bif !decide (ah.2=[]) then(ag M U).bind fun an=>(ag F D).bind fun ar=>(tM an.1 ar.2).bind fun Y=>bif decide (Y<0) then some (.inr (.inr (3,()))) else J (aa .i64 (D+1))<|some (.inl (M,N,(D+1),F,O,())) else J (aa .i64 (D+1))<|some (.inl (M,N,(D+1),F,O,())) else some (.inr (.inl (M,N,F,O,())))
def zM:Lp (bK×aA×aD×eD) jr:=fun(N,F,M,D,_)=>bif decide (D<(F.length:Int)) then(ag F D).bind fun U=>(ag N U).bind fun Y=>(mM M Y.1.1).bind fun O=>bif !O then some (.inr (.inr (5,()))) else J (aa .i64 (D+1))<|some (.inl (N,F,M,(D+1),())) else some (.inr (.inl (())))
def Mc (x:bK) (Z:aK) (x2:aA):bH:=(ab zP (x,Z,x2,0,())).bind fun o=>match o with|.inl (J,ah,D,_)=>((tF J ah D).bind fun reach=>(ab zO (J,D,0,reach.1,reach.2,())).bind fun O=>match O with|.inl (bb,an,a7,a8,_)=>((ab zN (bb,an,0,a7,a8,())).bind fun U=>match U with|.inl (M,F,a1,a6,_)=>((Ez M F).bind fun N=>bif N then some 4 else(yN (a1,a6)).bind fun names=>(ab zM (M,F,names,0,())).bind fun Y=>match Y with|.inl (_)=>some 0|.inr (ar,_)=>some ar)|.inr (av,_)=>some av)|.inr (az,_)=>some az)|.inr (aE,_)=>some aE
def Dp:Lp (aA×Int×bK×aK×aS×gW×Unit) (aA×bK×aK×aS×gW×Unit):=fun(D,i,N,O,U,F,_)=>bif decide (i<(D.length:Int)) then(ag D i).bind fun M=>J (0<=M/\M<F.length)<|(F[M.toNat]?).bind fun q=>J (aa .i64 (i+1))<|some (.inl (D,(i+1),N,O,U,(F.set M.toNat true),())) else some (.inr (D,N,O,U,F,()))
def Dn:Lp (Int×bK×aK×aS×aS×aK×gW×Unit) (gW×Unit):=fun(D,M,N,O,t,U,F,_)=>bif decide (D<(t.length:Int)) then(ag t D).bind fun Y=>(mz (M,N,O) Y).bind fun var=>bif decide (0<var) then J (aa .i64 (var - 1))<|J (0<=(var - 1)/\(var - 1)<F.length)<|(F[(var - 1).toNat]?).bind fun Z=>J (aa .i64 (D+1))<|some (.inl ((D+1),M,N,O,t,U,(F.set (var - 1).toNat true),())) else J (aa .i64 (D+1))<|some (.inl ((D+1),M,N,O,t,U,F,())) else some (.inr (F,()))
def DF (c:mY) (choice:aA):Option gW:=(nN c).bind fun vars=>J (vars=vars/\0<=vars/\vars<=1000000000)<|(ab Dp (choice,0,c.1,c.2.1,c.2.2,(List.replicate vars.toNat false),())).bind fun(N,D,F,M,O,_)=>(tF D F N).bind fun reach=>(ab Dn (0,D,F,M,reach.1,reach.2,O,())).bind fun(U,_)=>some U
def IK (x:Int) (F:gW):bz:=(wk x F).bind fun D=>some D
def xX:Lp (aA×gW×iP) jr:=fun(M,F,N,D,_)=>bif decide (D<N) then(ag M D).bind fun O=>(IK O F).bind fun holds=>bif holds then some (.inr (.inr (D,()))) else J (aa .i64 (D+1))<|some (.inl (M,F,N,(D+1),())) else some (.inr (.inl (())))
def O2 (s:aA) (f:gW):bH:=(ab xX (s,f,(s.length:Int),0,())).bind fun o=>match o with|.inl (_)=>some (-1)|.inr (D,_)=>some D
def OZ (s:aA) (f:gW):bz:=(O2 s f).bind fun D=>some (decide (0<=D))
def IX (c:aA) (F:gW):bz:=(OZ c F).bind fun D=>some (!D)
def xZ:Lp (gO×gW×iP) jr:=fun(M,F,N,D,_)=>bif decide (D<N) then(ag M D).bind fun O=>(IX O F).bind fun holds=>bif holds then some (.inr (.inr (D,()))) else J (aa .i64 (D+1))<|some (.inl (M,F,N,(D+1),())) else some (.inr (.inl (())))
def Pf (s:gO) (f:gW):bH:=(ab xZ (s,f,(s.length:Int),0,())).bind fun o=>match o with|.inl (_)=>some (-1)|.inr (D,_)=>some D
def O4 (s:gO) (f:gW):bz:=(Pf s f).bind fun D=>some (decide (0<=D))
def Dl (f:Int×gO) (model:gW):bz:=(O4 f.2 model).bind fun D=>some (!D)
def vA:Lp (cS×gO×Int×eE×bF×bK×aK×bK×pP) jq:=fun(M,F,D,an,ar,N,O,U,Y,Z,_)=>bif decide (D<2) then(ag F D).bind fun a8=>(Mc N O a8).bind fun a7=>bif !decide (a7=0) then J (aa .i64 (D+1))<|some (.inl (M,F,(D+1),an,ar,N,O,U,Y,Z,())) else(ag F D).bind fun bb=>(DF (U,Y,Z) bb).bind fun ah=>(oR M).bind fun a6=>(yu M).bind fun az=>(Dl (a6,az.2) ah).bind fun aE=>bif !aE then some (.inr (.inr (()))) else(Dd M ah).bind fun av=>(ag F D).bind fun bp=>(oZ av bp).bind fun a1=>bif !a1 then some (.inr (.inr (()))) else J (aa .i64 (D+1))<|some (.inl (M,F,(D+1),an,ar,N,O,U,Y,Z,())) else some (.inr (.inl (())))
def Jv (x:xj) (F:aA):bz:=(oW x).bind fun o=>match o with|.inl (both,J,D,_)=>(eO.bind fun M=>bif !M then eO.bind fun N=>some N else bif decide (50<(F.length:Int)) then eO.bind fun O=>some O else(Lk both.2.2.1 both.2.2.2 300).bind fun solve=>bif !solve.2.2 then(ab vA (J,([F,[]]:gO),0,both.1,both.2.1,both.2.2.1,both.2.2.2,D.1,D.2.1,D.2.2,())).bind fun ah=>match ah with|.inl (_)=>some true|.inr (_)=>some false else bif !solve.2.1 then(ab vA (J,([F,[]]:gO),0,both.1,both.2.1,both.2.2.1,both.2.2.2,D.1,D.2.1,D.2.2,())).bind fun an=>match an with|.inl (_)=>some true|.inr (_)=>some false else(ab vA (J,([F,solve.1]:gO),0,both.1,both.2.1,both.2.2.1,both.2.2.2,D.1,D.2.1,D.2.2,())).bind fun ar=>match ar with|.inl (_)=>some true|.inr (_)=>some false)|.inr (av,az,_)=>eO.bind fun U=>bif !U then eO.bind fun Y=>some Y else eO.bind fun Z=>some Z
theorem anz {V R α σ:Type} {f:V->Option (V⊕R)} (l:List α) (g:σ->α->σ) (st:Nat->σ->V) (a:σ->R)
  (h1: ∀k (h:k<l.length) s,f (st k s)=some (.inl (st (k+1) (g s l[k]))))
  (D: ∀s,f (st l.length s)=some (.inr (a s))) (s:σ):ab f (st 0 s)=some (a (l.foldl g s)):=by
 have:=YS l (fun _=>true) g st a (a s) (by grind) (by simp) D s
 grind
theorem Xb (v w:cP) (N:v.2=[]\/preB v.2=true) (hw:w.2=[]\/preB w.2=true) (O:v.2.length<=20000) (lw:w.2.length<=20000):tA (bX v) (bX w)=some (eJ v w):=by
 have hp: ∀u:cP,u.2=[]\/preB u.2=true-> ∀p∈(bX u).2.2.2,gr p=true:=by
  intro u hu p hp;unfold bX at hp;simp only[] at hp;by_cases e:u.2=[]
  · grind
  · rw[if_neg e] at hp;rcases hu with hu |hu
    · grind
    · exact R5 hu p hp
 have J: ∀u:cP,u.2.length<=20000->(bX u).2.2.2.length<=20001:=by
  intro u hu;unfold bX;simp only[];by_cases e:u.2=[]
  · grind
  · rw[if_neg e];have:=(mA 46 u.2).2;omega
 rw[WB (bX v) (bX w) (hp v N) (hp w hw) (J v O) (J w lw)];unfold bX eJ iZ;simp only[];by_cases e:cg aP [v.1.1,v.1.2.1,v.1.2.2] [w.1.1,w.1.2.1,w.1.2.2]=0
 · rw[if_pos e,if_pos e];by_cases D:v.2=[]
   · rw[if_pos D,if_pos rfl];by_cases F:w.2=[]
     · grind
     · rw[if_neg F,if_neg (mE _ _),if_neg (by rw[D];exact fun g=>F g.symm),if_pos D]
   · rw[if_neg D,if_neg (mE _ _)];by_cases F:w.2=[]
     · grind
     · rw[if_neg F,if_neg (mE _ _)];by_cases M:v.2=w.2
       · simp[M,QX]
       · grind
 · grind
theorem aqV (c:cO) (h:fP c.2) (D:c.1=6\/c.1=7):Mg c.1 (bX c.2)=some (bX (ov c)):=by
 obtain⟨⟨J,a2⟩,⟨M,N⟩,c1,c2⟩:=h.num;have F:bX (ov c)=((ov c).1.1,(ov c).1.2.1,(ov c).1.2.2,[]):=by unfold bX;rw[if_pos (Ms c)]
 rw[F];unfold Mg bX;simp only[];rcases D with e |e
 · simp (disch:=omega) only[K0,ov]
 · simp (disch:=omega) only[K0];simp[ov];by_cases O:0<c.2.1.1
   · simp (disch:=omega) only[K0]
   · simp (disch:=omega) only[K0];by_cases U:0<c.2.1.2.1
     · grind
     · grind
theorem anI (c:cO) (hc:se c) (v:cP) (J:fP v):Lt (fJ c) (bX v)=some (qI c v):=by
 unfold Lt qI fJ;simp only[];rw[Xb v c.2 J.pre hc.cD.pre J.2 hc.cD.2,ae2];by_cases M:c.1=0
 · grind
 rw[dN M,cond_false,if_neg M];by_cases N:c.1=1
 · grind
 rw[dN N,cond_false,if_neg N];by_cases O:c.1=2
 · grind
 rw[dN O,cond_false,if_neg O];by_cases U:c.1=3
 · grind
 rw[dN U,cond_false,if_neg U];by_cases Y:c.1=4
 · grind
 rw[dN Y,cond_false,if_neg Y];by_cases Z:c.1=5
 · grind
 rw[dN Z,cond_false,if_neg Z];by_cases D:c.1=8
 · grind
 rw[dN D,cond_false,if_neg D];by_cases F:0<=eJ v c.2
 · have ah:c.1=6\/c.1=7:=by
     rcases hc with hc |hc
     · rw[hc] at D;exact absurd rfl D
     · omega
   rw[dY F,cond_true,if_pos F,aqV c hc.cD ah];simp only[ae2];rw[Xb v _ J.pre (.inl (Ms c)) J.2 (by rw[Ms];exact ae6 _)];rfl
 · rw[dN F,cond_false,if_neg F]
theorem Y5 {α:Type} (p q:α->Bool): ∀(l:List α) (a b:Bool),l.foldl (fun n c=>(n.1&&p c,n.2||q c)) (a,b)=(a&&l.all p,b||l.any q)
 |[],a,b=>by simp (disch:=omega) only[K0,List.all_nil,List.any_nil];rfl
 |x::t,a,b=>by rw[aw6,Y5 p q t,List.any_cons,List.all_cons,Bool.or_assoc,Bool.and_assoc]
theorem ap4 (c:cO) (i:Decidable (0<(((fJ c).2.2.2.2.length:Nat):Int))): @decide (0<(((fJ c).2.2.2.2.length:Nat):Int)) i= !decide (c.2.2=[]):=by
 have:(fJ c).2.2.2.2=if c.2.2=[] then[] else aB 46 c.2.2:=rfl
 by_cases e:c.2.2=[]
 · grind
 · have h:=av5.2 (mE 46 c.2.2);rw[dN e,dY (by grind)];rfl
theorem apn (r:List (List acR)) (j:Nat) (F:j<r.length) (a:List cO) (D:r[j]=a.map fJ) (hl:a.length<=1000) (hc: ∀c∈a,se c) (v:cP) (O:fP v) (b:Bool):
  ab Fc (r,(j:Int),true,b,0,(bX v).1,(bX v).2.1,(bX v).2.2.1,(bX v).2.2.2,())=some (r,(j:Int),a.all (fun c=>qI c v),b||a.any (AM v),(bX v).1,(bX v).2.1,(bX v).2.2.1,(bX v).2.2.2,()):=by
 have Y:((bX v).1,(bX v).2.1,(bX v).2.2.1,(bX v).2.2.2)=bX v:=rfl;have main:=anz (f:=Fc) a (fun(n) c=>(n.1&&qI c v,n.2||AM v c)) (fun k n=>(r,j,n.1,n.2,k,(bX v).1,(bX v).2.1,(bX v).2.2.1,(bX v).2.2.2,())) (fun n=>(r,j,n.1,n.2,(bX v).1,(bX v).2.1,(bX v).2.2.1,(bX v).2.2.2,())) ?_ ?_ (true,b)
 · exact main.trans (by rw[Y5,Bool.true_and])
 · intro k hk n;obtain⟨n1,n2⟩:=n;have N:k<(a.map fJ).length:=by rw[ae4];exact hk
   have M:(a.map fJ)[k]=fJ a[k]:=au5 _;have hh:=anI a[k] (hc _ (ae3 hk)) v O;have i1:(fJ a[k]).2.1=(a[k]).2.1.1:=rfl;have i2:(fJ a[k]).2.2.1=(a[k]).2.1.2.1:=rfl;have i3:(fJ a[k]).2.2.2.1=(a[k]).2.1.2.2:=rfl;have U:(bX v).1=v.1.1:=rfl;have j2:(bX v).2.1=v.1.2.1:=rfl;have j3:(bX v).2.2.1=v.1.2.2:=rfl;have Z:=aH k;have ah: ∀{R:Type} (q:Option R),J (aa .i64 (k+1:Nat)) q=q:=fun q=>aw (by omega)
   simp only[Fc,au F,D,au N,M,ap4];unfold AM acv;rw[U];by_cases p0:(a[k]).2.2=[]
   · grind
   · grind
 · intro n;simp only[Fc,au F,D,ae4,as2,decide_false,cond_false]
theorem Ya (r:List (List cO)) (D:Mx r) (v:cP) (Y:fP v):FV (r.map fun a=>a.map fJ) (bX v)=some (gj r v):=by
 unfold FV;have h1:=D.one
 have F:decide ((((bX v).2.2.2).length:Int)=0)=decide (v.2=[]):=by
  have:(bX v).2.2.2=if v.2=[] then[] else aB 46 v.2:=rfl
  by_cases e:v.2=[]
  · grind
  · have h:=av5.2 (mE 46 v.2);rw[dN e,dN (by rw[this,if_neg e];omega)]
 have step: ∀k (hk:k<r.length),Lu ((r.map fun a=>a.map fJ),(k:Int),(bX v).1,(bX v).2.1,(bX v).2.2.1,(bX v).2.2.2,())=if oz v r[k]=true then some (.inr (.inr ())) else some (.inl ((r.map fun a=>a.map fJ),((k+1:Nat):Int),(bX v).1,(bX v).2.1,(bX v).2.2.1,(bX v).2.2.2,())):=by
  intro k hk;obtain⟨Z,a2,a3⟩:=D.alts _ (ae3 hk);have U:k<(r.map fun a=>a.map fJ).length:=by rw[ae4];exact hk
  have O:=apn (r.map fun a=>a.map fJ) k U r[k] (au5 _) (by omega) a3 v Y (decide (v.2=[]))
  have M:=aH k;have N: ∀{R:Type} (q:Option R),J (aa .i64 ((k+1:Nat):Int)) q=q:=fun q=>aw (show k+1<=4611686018427387904 by omega)
  simp only[Lu,ae4,dY (show((k:Nat):Int)<(r.length:Int) by omega),cond_true,F,O,ae2,M,N]
  unfold oz;rcases av8 ((r[k]).all fun c=>qI c v) with e |e
  · grind
  · rw[e,Bool.false_and];rfl
 rw[kj (kg r (fun a=> !oz v a) (fun k=>((r.map fun a=>a.map fJ),(k:Int),(bX v).1,(bX v).2.1,(bX v).2.2.1,(bX v).2.2.2,())) (.inl ()) (.inr ()) ?_ ?_ ?_) ?st]
 case st=>rfl
 · unfold gj;have e:(r.all fun a=> !oz v a)= !r.any (oz v):=by rw[List.all_eq_not_any_not];simp only[Bool.not_not]
   rw[e];rcases av8 (r.any (oz v)) with g |g
   · rw[g];rfl
   · rw[g];rfl
 · grind
 · grind
 · simp only[Lu,ae4,as2,decide_false,cond_false]
theorem tR {α β γ:Type} {e:Nat->α->List β} {g:β->γ}: ∀(l:List α) (k:Nat),(aN e l k).map g=aN (fun j x=>(e j x).map g) l k
 |[],k=>rfl
 |x::t,k=>by show(e k x++aN e t (k+1)).map g=(e k x).map g++aN _ t (k+1);rw[at4,tR t (k+1)]
theorem Zj {α β:Type} {e D:Nat->α->List β}: ∀(l:List α) (k:Nat),(∀j (h:j<l.length),(e (k+j) l[j]).Perm (D (k+j) l[j]))->(aN e l k).Perm (aN D l k)
 |[],k,_=>.refl _
 |x::t,k,h=>by have h0:(e k x).Perm (D k x):=h 0 (Nat.zero_lt_succ _);exact h0.append (Zj t (k+1) (fun j F=>by have:=h (j+1) (Nat.succ_lt_succ F);rw[show k+1+j=k+(j+1) by omega];exact this))
theorem XT {s:List UInt8} (h:iH s=true):s.length<=80:=by grind[iH]
theorem wC {A:List aq} {n:al} {i:Int}:i∈eT A n<-> ∃j,∃h:j<A.length,i=((j:Nat):Int)/\uq n A[j]=true:=by
 unfold eT;rw[dG];constructor
 · grind
 · grind
def fq (A:List aq) (n:al):List Int:=(eT A n).map (· +1)
theorem amZ {A:List aq} {n:al} {i:Int} (h:i∈fq A n):1<=i/\i<=(A.length:Int):=by obtain⟨j,D,rfl⟩:=au0.1 h;obtain⟨k,hk,rfl,_⟩:=wC.1 D;omega
theorem EY (A:List aq) (n:al):(fq A n).length<=A.length:=by unfold fq;rw[ae4];exact qC A n
theorem ao5 {R:Type} {f:Int×Int×List Int×Unit->Option ((Int×Int×List Int×Unit)⊕R)} (l:List Int) (g:Int->Int) (out:List Int->R)
  (h1: ∀k (h:k<l.length) (o:List Int),o.length=l.length->o[k]? =some l[k]->f ((l.length:Int),(k:Int),o,())=some (.inl ((l.length:Int),((k+1:Nat):Int),o.set k (g l[k]),())))
  (J: ∀o:List Int,f ((l.length:Int),(l.length:Int),o,())=some (.inr (out o))):ab f ((l.length:Int),0,l,())=some (out (l.map g)):=by
 have: ∀n k,l.length - k=n->k<=l.length->ab f (l.length,k,(l.take k).map g++l.drop k,())=some (out (l.map g)):=by
  intro n
  induction n with
  |zero=>
   intro k M hk;have e:k=l.length:=by omega
   subst e;rw[bk (J _),List.drop_length,at0,au3]
  |succ n O=>
   intro k M hk;have D:k<l.length:=by omega
   have hlen:((l.take k).map g).length=k:=by simp_all
   have F:((l.take k).map g++l.drop k)[k]? =some l[k]:=by simp_all
   rw[aZ (h1 k D _ (by rw[as0,au4];omega) F)]
   have N:((l.take k).map g++l.drop k).set k (g l[k])=(l.take (k+1)).map g++l.drop (k+1):=by rw[List.set_append_right _ _ (by omega),hlen,Nat.sub_self,List.drop_eq_getElem_cons D,List.take_succ_eq_append_getElem D,at4,at8];rfl
   grind
 exact this l.length 0 rfl (ae6 _)
theorem Yu (l:List Int) (Y:l.length<=1000000) (N: ∀x∈l,0<=x/\x<=1000000) {f:Int×Int×List Int×Unit->Option ((Int×Int×List Int×Unit)⊕(List Int×Unit))}
  (hf:f=I5\/f=Da):ab f ((l.length:Int),0,l,())=some (l.map (· +1),()):=by
 refine ao5 l (· +1) (fun o=>(o,())) ?_ ?_
 · intro k hk o Z O;have ah:=N _ (ae3 hk);have U:k<o.length:=by omega
   have D:o[k]=l[k]:=by grind
   have F:=aH k;have M: ∀{R:Type} (q:Option R),J (aa .i64 (k+1:Nat)) q=q:=fun q=>aw (by omega)
   rcases hf with rfl |rfl
   · simp (disch:=omega) only[K0,I5,D,F,M,Da]
   · simp (disch:=omega) only[K0,Da,D,F,M]
 · intro o;rcases hf with rfl |rfl
   · simp[I5]
   · simp[Da]
theorem Lz (A:List aq) (hA:A.length<=360) (n:al): ∀x∈eT A n,0<=x/\x<=1000000:=by intro x D;obtain⟨j,F,rfl,_⟩:=wC.1 D;omega
theorem Yt (A:List aq) (hA:bu A) (c:pt) (hc:c.1=A.map bN) (n:al) (D:iH n.2.1=true):C' c (aO n)=some (fq A n):=by have hs:=hA.many;have F:=qC A n;unfold C';rw[hc,T8 A hA n D,ae2,Yu (eT A n) (by omega) (Lz A hs n) (.inl rfl)];rfl
theorem aqc (A:List aq) (hA:bu A) (c:pt) (hc:c.1=A.map bN) (n:al) (D:iH n.2.1=true):JJ c (aO n)=some (fq A n):=by have hs:=hA.many;have F:=qC A n;unfold JJ;rw[hc,T8 A hA n D,ae2,Yu (eT A n) (by omega) (Lz A hs n) (.inr rfl)];rfl
theorem zp {ns:List al} {w:Want}:w∈eY ns<-> ∃n∈ns,w.1=n.1/\w.2∈n.2.2:=by
 unfold eY;rw[dG];constructor
 · rintro⟨j,F,h⟩;obtain⟨i,D,h⟩:=dG.1 h;have:=at5.1 h;exact⟨_,ae3 F,by rw[this],by rw[this];exact ae3 D⟩
 · rintro⟨n,M,h1,h2⟩;obtain⟨j,F,rfl⟩:=au8 M;obtain⟨i,D,J⟩:=au8 h2;exact⟨j,F,dG.2 ⟨i,D,by rw[J,<-h1];exact at5.2 rfl⟩⟩
theorem FO (A:List aq) (hA:bu A) (R:List al) (hR:bM R):oR (bn A R)=some ((A.length+(ax A R).length:Nat):Int)/\nN (ij A R)=some ((A.length+(ax A R).length:Nat):Int):=by
 have hs:=hA.many;have D:=Ar A hA R hR;refine⟨?_,?_⟩
 · unfold oR bn;show J (aa .i64 (((A.map bN).length)+((ax A R).length))) _=_;rw[ae4,ai (bd (by omega))]
   rfl
 · unfold nN ij;show J (aa .i64 (A.length+((ax A R).length))) _=_;rw[ai (bd (by omega))];rfl
abbrev bT:=aY×List Int
theorem al1 {l m:List Int} (h: ∀z,z∈l<->z∈m):bV l=bV m:=Mo (tC l).1 fun z=>((tC l).2 z).trans (h z)
theorem oO.nodup {l:List Int} (h:oO l):l.Nodup:=h.imp fun{a b} q e=>by rw[e,Ak.self] at q;exact absurd q (by simp)
theorem L0 (l:List Int):(bV l).length<=l.length:=KV (tC l).1.nodup fun z D=>((tC l).2 z).1 D
def dV (l:List Int):Prop:= ∀x∈l,-1000000<=x/\x<=1000000
def cN (n:Nat) (T:bf) (w:Want):Int:=if bG T (fun x=>decide (x=w))<0 then 0 else(n:Int)+bG T (fun x=>decide (x=w))+1
theorem Et (n:Nat) (T:bf) (w:Want):0<=cN n T w/\cN n T w<=(n:Int)+(T.length:Int):=by
 unfold cN;rcases kX T (fun x=>decide (x=w)) with⟨_,q⟩ |⟨j,D,_,q,_,_⟩
 · omega
 · omega
theorem SX (A:List aq) (R:List al) (T:bf) (hA:A.length<=360) (hT:T.length<=60000) (w:Want):mz (A,R,T) w=some (cN A.length T w):=by
 unfold mz;have main:=iT (f:=DE) T (fun x=>decide (x=w)) (fun k=>(k,A,R,T,w.1,w.2,())) (fun k=>.inr (A.length+k+1,())) (.inl ()) ?_ ?_ ?_
 · rw[kj main ?st]
   case st=>rfl
   unfold cN;rcases kX T (fun x=>decide (x=w)) with⟨_,q⟩ |⟨j,F,f,q,_,_⟩
   · grind
   · grind
 · intro k hk hp;have hp:=of_decide_eq_false hp;have D:(decide ((T[k]).1=w.1)&&decide ((T[k]).2=w.2))=false:=by grind
   simp (disch:=omega) only[K0,DE,D]
 · intro k hk hp;have hp:=of_decide_eq_true hp;have D:(decide ((T[k]).1=w.1)&&decide ((T[k]).2=w.2))=true:=by rw[hp,dY rfl,dY rfl];rfl
   simp (disch:=omega) only[K0,DE,D]
 · simp[DE]
def lR (A:List aq) (T:bf) (F:Nat->aY) (J:Nat->Nat->aY) (D:List Int) (ns:List al):List bT:=
 aN (fun i (n:al)=>(F i,bV (D++fq A n))::aN (fun k f=>[(J i k,bV (D++[cN A.length T (n.1,f)]))]) n.2.2 0) ns 0
def mkNA (b:aY) (i:Nat):aY:=if b.1=4 then(b.1,b.2.1,(i:Int),b.2.2.2.1,b.2.2.2.2) else if b.1=7 then(b.1,b.2.1,b.2.2.1,(i:Int),b.2.2.2.2) else(b.1,(i:Int),b.2.2.1,b.2.2.2.1,b.2.2.2.2)
def mkNS (b:aY) (i:Nat):aY:=if b.1=4 then(b.1+1,b.2.1,(i:Int),b.2.2.2.1,b.2.2.2.2) else if b.1=7 then(b.1+1,b.2.1,b.2.2.1,(i:Int),b.2.2.2.2) else(b.1+1,(i:Int),b.2.2.1,b.2.2.2.1,b.2.2.2.2)
def mkNB (b:aY) (i k:Nat):aY:=if b.1=4 then((mkNS b i).1,(mkNS b i).2.1,(mkNS b i).2.2.1,(k:Int),(mkNS b i).2.2.2.2) else if b.1=7 then((mkNS b i).1,(mkNS b i).2.1,(mkNS b i).2.2.1,(mkNS b i).2.2.2.1,(k:Int)) else((mkNS b i).1,(mkNS b i).2.1,(k:Int),(mkNS b i).2.2.2.1,(mkNS b i).2.2.2.2)
theorem tP {a b:List Int} (D:dV a) (F:dV b):dV (a++b):=fun x J=>(as3.1 J).elim (D x) (F x)
theorem Fe (A:List aq) (hA:A.length<=360) (n:al):dV (fq A n):=fun x D=>by have:=amZ D;omega
theorem wj {x:Int} (h: -1000000<=x/\x<=1000000):dV [x]:=fun y D=>by rw[at5.1 D];exact h
def neg (i:Int):Int:=0 - (i+1)
theorem o6 {x y:Int} (h: -1000000<=x/\x<=1000000) (h': -1000000<=y/\y<=1000000):dV [x,y]:=fun z D=>by grind
theorem Sv (e:bO) (s:List UInt8) (D:e.2.2.2.2.2.2.2.length<=1000):tM e s=some (bG e.2.2.2.2.2.2.2 fun f=>decide (f.1=s)):=by
 unfold tM bG;have main:=iT (f:=Ey) e.2.2.2.2.2.2.2 (fun f=>decide (f.1=s)) (fun k=>(s,k,e.1,e.2.1,e.2.2.1,e.2.2.2.1,e.2.2.2.2.1,e.2.2.2.2.2.1,e.2.2.2.2.2.2.1,e.2.2.2.2.2.2.2,())) (fun k=>.inr (k,())) (.inl ()) ?_ ?_ ?_
 · grind
 · intro k hk hp;have hp:=of_decide_eq_false hp;simp (disch:=omega) only[K0,Ey]
 · intro k hk hp;have hp:=of_decide_eq_true hp;simp (disch:=omega) only[K0,Ey]
 · simp[Ey]
def uu (A:List aq) (i:Nat) (s:List UInt8):List bT:=aN (fun k (y:aq)=>if decide (y.1.1=s)=true then[((3,(i:Int),((i+1+k:Nat):Int),0,0),bV [neg i,neg ((i+1+k:Nat):Int)])] else[]) (A.drop (i+1)) 0
def sj (A:List aq) (T:bf) (i t:Nat) (e:bO) (w:Want):List bT:=if decide (w.1=e.1)=true then(match eP e w.2 with
 |none=>[((6,(i:Int),(t:Int),0,0),[neg i,neg ((A.length:Int)+(t:Int))])]
 |some f=>lR A T (mkNA (7,(i:Int),(t:Int),0,0)) (mkNB (7,(i:Int),(t:Int),0,0)) [neg i,neg ((A.length:Int)+(t:Int))] f.2) else[]
def AR (A:List aq) (T:bf) (i:Nat) (e:bO):List bT:=aN (fun t w=>sj A T i t e w) T 0
def Gz (A:List aq) (i:Nat) (bs:List al):List bT:=aN (fun k (n:al)=>aN (fun _ y=>[((9,(i:Int),(k:Int),y,0),bV [neg i,neg y])]) (eT A n) 0) bs 0
def mR (A:List aq) (T:bf) (i:Nat) (e:bO):List bT:=((uu A i e.1++lR A T (mkNA (4,(i:Int),0,0,0)) (mkNB (4,(i:Int),0,0,0)) [neg i] e.2.2.2.2.2.2.1)++AR A T i e)++Gz A i e.2.2.2.2.2.1
def lp (A:List aq) (R:List al) (T:bf):List bT:=lR A T (mkNA (1,0,0,0,0)) (mkNB (1,0,0,0,0)) [] R++aN (fun i (y:aq)=>mR A T i y.1) A 0
theorem Q0 (A:List aq) (T:bf) (D:Nat->aY) (F:Nat->Nat->aY) (J:List Int) (ns:List al):(lR A T D F J ns).map (·.1)=r6 D F ns:=by unfold lR r6;rw[tR];congr 1;funext i n;rw[ay3,tR];rfl
theorem mk_1:mkNA (1,0,0,0,0)=(fun(i:Nat)=>((1,(i:Int),0,0,0):aY))/\mkNB (1,0,0,0,0)=(fun(i k:Nat)=>((2,(i:Int),(k:Int),0,0):aY)):=by grind[mkNA,mkNB,mkNS]
theorem mk_4 (i:Int):mkNA (4,i,0,0,0)=(fun(k:Nat)=>((4,i,(k:Int),0,0):aY))/\mkNB (4,i,0,0,0)=(fun(k j:Nat)=>((5,i,(k:Int),(j:Int),0):aY)):=by grind[mkNA,mkNB,mkNS]
theorem mk_7 (i t:Int):mkNA (7,i,t,0,0)=(fun(k:Nat)=>((7,i,t,(k:Int),0):aY))/\mkNB (7,i,t,0,0)=(fun(k j:Nat)=>((8,i,t,(k:Int),(j:Int)):aY)):=by
 refine⟨funext fun k=>?_,funext fun k=>funext fun j=>?_⟩
 · rfl
 · rfl
theorem SD {α β:Type} {e:Nat->α->List β}: ∀(l m:List α) (k:Nat),aN e (l++m) k=aN e l k++aN e m (k+l.length)
 |[],m,k=>rfl
 |x::t,m,k=>by show e k x++aN e (t++m) (k+1)=(e k x++aN e t (k+1))++_;rw[SD t m (k+1),at8,List.length_cons,show k+(t.length+1)=k+1+t.length by omega]
theorem Yi {α β:Type} {e:Nat->α->List β} (d:Nat): ∀(l:List α) (k:Nat),aN e l (d+k)=aN (fun j x=>e (d+j) x) l k
 |[],k=>rfl
 |x::t,k=>by show e (d+k) x++aN e t (d+k+1)=_;rw[show d+k+1=d+(k+1) by omega,Yi d t (k+1)];rfl
theorem apJ {α β γ:Type} {e:Nat->α->List β} {g:β->List γ}: ∀(l:List α) (k j:Nat),aN (fun _ y=>g y) (aN e l k) j=aN (fun k x=>aN (fun _ y=>g y) (e k x) 0) l k:=by
 have F: ∀l (k j),aN (fun _ y=>g y) l k=aN (fun _ y=>g y) l j:=by
  intro l
  induction l with
  |nil=>intro k j;rfl
  |cons x t D=>intro k j;show g x++aN _ t (k+1)=g x++aN _ t (j+1);rw[D (k+1) (j+1)]
 intro l
 induction l with
 |nil=>intro k j;rfl
 |cons x t D=>intro k j;show aN (fun _ y=>g y) (e k x++aN e t (k+1)) j=aN (fun _ y=>g y) (e k x) 0++aN _ t (k+1);rw[SD,D,F (e k x) j 0]
theorem SC {α β:Type} {e:Nat->α->List β}: ∀(l:List α) (k:Nat),(∀j (h:j<l.length),e (k+j) l[j]=[])->aN e l k=[]
 |[],k,_=>rfl
 |x::t,k,h=>by show e k x++aN e t (k+1)=[];rw[show e k x=[] from h 0 (Nat.zero_lt_succ _),SC t (k+1) (fun j D=>by have:=h (j+1) (Nat.succ_lt_succ D);rw[show k+1+j=k+(j+1) by omega];exact this)];rfl
theorem anC (A:List aq) (i:Nat) (J:i<A.length) (s:List UInt8):(uu A i s).map (·.1)=AY A i s:=by
 have h0:A=A.take (i+1)++A.drop (i+1):=(List.take_append_drop _ _).symm;unfold uu AY kJ;rw[tR,apJ]
 conv=>rhs;rw[h0,SD]
 have D:(A.take (i+1)).length=i+1:=by grind
 rw[SC (A.take (i+1)) 0,D,Nat.zero_add,Yi (i+1) (A.drop (i+1+0)) 0]
 · congr 1;funext k y;by_cases q:y.1.1=s
   · simp (disch:=omega) only[K0];show _=(if decide (i<((i+1+k):Int))=true then _ else _)++[]
     simp (disch:=omega) only[K0];rfl
   · simp (disch:=omega) only[K0];rfl
 · intro j F;rw[D] at F;by_cases q:((A.take (i+1))[j]'(by omega)).1.1=s
   · rw[dY q];show(if decide (i<((0+j):Int))=true then _ else _)++[]=[]
     grind
   · rw[dN q];rfl
theorem anB (A:List aq) (T:bf) (i:Nat) (D:i<A.length) (e:bO):((mR A T i e).map (·.1)).Perm (mU A T i e):=by
 unfold mR;simp only[at4];rw[anC A i D,Q0,(mk_4 i).1,(mk_4 i).2]
 have h1:(AR A T i e).map (·.1)=n4 T i e:=by
  unfold AR n4;rw[tR];congr 1;funext t w;unfold sj wU;by_cases q:w.1=e.1
  · rw[dY q,if_pos rfl,if_pos rfl];cases eP e w.2 with
    |none=>rfl
    |some f=>simp only[];rw[Q0,(mk_7 i t).1,(mk_7 i t).2]
  · grind
 have h2:(Gz A i e.2.2.2.2.2.1).map (·.1)=Nw A i e.2.2.2.2.2.1:=by unfold Gz Nw;rw[tR];congr 1;funext k n;rw[tR];rfl
 rw[h1,h2];unfold mU pf o7;rw[List.perm_iff_count];intro z;simp only[List.count_append];omega
theorem RX (A:List aq) (R:List al) (T:bf):((lp A R T).map (·.1)).Perm (iY A R T):=by unfold lp iY;rw[at4,Q0,tR];refine(List.Perm.refl _).append (Zj A 0 fun j D=>?_);rw[Nat.zero_add];exact anB A T j D _
theorem Sa (a b:Want):D4 a b=some (cT a b):=by grind[D4,DR,Lc]
theorem mv.nth {T:bf} (h:mv T) {i j:Nat} (D:i<j) (F:j<T.length):cT (T[i]'(by omega)) T[j]<0:=ax7.1 h i j (by omega) F D
theorem am3 (T:bf) (hs:mv T) (hT:T.length<=60000) (w:Want): ∃i:Int,Ir T w=some (i,T.any fun x=>decide (x=w))/\(T.any (fun x=>decide (x=w))=true->i=bG T fun x=>decide (x=w)):=by
 have main:=mF (f:=CH)
  (fun v=> ∃i j:Nat,v=(T,(T.length:Int),(i:Int),(j:Int),w.1,w.2,())/\i<=j/\j<=T.length/\(∀t (h:t<T.length),t<i->cT T[t] w<0)/\(∀t (h:t<T.length),j<=t-> ¬cT T[t] w<0))
  (fun v=>(v.2.2.2.1 - v.2.2.1).toNat)
  (fun r=> ∃i:Nat,r=(T,(T.length:Int),(i:Int),w.1,w.2,())/\i<=T.length/\(∀t (h:t<T.length),t<i->cT T[t] w<0)/\(∀t (h:t<T.length),i<=t-> ¬cT T[t] w<0)) ?_
  (T,(T.length:Int),0,(T.length:Int),w.1,w.2,()) ⟨0,T.length,rfl,ae6 _,ae5 _,fun t h q=>absurd q (by omega),fun t h q=>absurd q (by omega)⟩
 · obtain⟨r,Z,i,rfl,hi,N,up⟩:=main;unfold Ir;rw[Z,ae2];by_cases h:i<T.length
   · simp only[dY (show((i:Nat):Int)<(T.length:Int) by omega),cond_true,au h,Sa,ae2]
     by_cases e:cT T[i] w=0
     · have M:=KT e;have F:(T.any fun x=>decide (x=w))=true:=ax9.2 ⟨T[i],ae3 h,decide_eq_true M⟩;refine⟨(i:Int),by rw[F];show some ((i:Int),decide (cT T[i] w=0))=_;rw[dY e],fun _=>?_⟩
       rcases kX T (fun x=>decide (x=w)) with⟨q,_⟩ |⟨j,D,_,q,p,_⟩
       · rw[F] at q;cases q
       · rw[q];have p:=of_decide_eq_true p;have U:cT T[j] w=0:=by rw[p];exact ke.self w
         rcases ay7 i j with d |d |d
         · have:=hs.nth d D;rw[p] at this;omega
         · rw[d]
         · have:=hs.nth d h;rw[M] at this;omega
     · have F:(T.any fun x=>decide (x=w))=false:=by
         rw[aA1];intro x O q;obtain⟨j,D,rfl⟩:=au8 O;have q:=of_decide_eq_true q;have U:cT T[j] w=0:=by rw[q];exact ke.self w
         rcases ay7 i j with d |d |d
         · have:=hs.nth d D;rw[q] at this;exact up i h (ae5 _) this
         · subst d;exact e U
         · have:=N j D d;omega
       refine⟨(i:Int),by rw[F];show some ((i:Int),decide (cT T[i] w=0))=_;rw[dN e],fun q=>by rw[F] at q;cases q⟩
   · have F:(T.any fun x=>decide (x=w))=false:=by
       rw[aA1];intro x O q;obtain⟨j,D,rfl⟩:=au8 O;have q:=of_decide_eq_true q;have U:cT T[j] w=0:=by rw[q];exact ke.self w
       have:=N j D (by omega)
       omega
     refine⟨(i:Int),?_,fun q=>by rw[F] at q;cases q⟩
     simp only[dN (show¬((i:Nat):Int)<(T.length:Int) by omega),cond_false]
     rw[F]
 · rintro v ⟨i,j,rfl,ah,D,N,up⟩;by_cases d:i<j
   · have c1:aa .i64 ((i:Int)+(j:Int)):=bd (by omega)
     have hm:(i+j)/2<T.length:=by omega
     have Y: ∀{R:Type} (q:Option R),J (aa .i64 (((i+j)/2+1:Nat):Int)) q=q:=fun q=>aw (show(i+j)/2+1<=4611686018427387904 by omega)
     have hc:=aH ((i+j)/2);have M:(w.1,w.2)=w:=rfl;by_cases g:cT T[(i+j)/2] w<0
     · refine .inl ⟨(T,(T.length:Int),(((i+j)/2+1:Nat):Int),(j:Int),w.1,w.2,()),?_,⟨(i+j)/2+1,j,rfl,by omega,D,fun t h q=>?_,up⟩,?_⟩
       · simp only[CH,dY (show(i:Int)<(j:Int) by omega),cond_true,ai c1,ai (show(0:Int)<=1 by decide),AA i j (by omega),au hm,M,Sa,ae2,dY g,hc,Y]
       · by_cases e:t=(i+j)/2
         · subst e;exact g
         · exact ke.xN (hs.nth (show t<(i+j)/2 by omega) hm) (by omega)
       · show((j:Int) - (((i+j)/2+1:Nat):Int)).toNat<((j:Int) - (i:Int)).toNat;omega
     · refine .inl ⟨(T,(T.length:Int),(i:Int),(((i+j)/2:Nat):Int),w.1,w.2,()),?_,⟨i,(i+j)/2,rfl,by omega,by omega,N,fun t h q=>?_⟩,?_⟩
       · simp only[CH,dY (show(i:Int)<(j:Int) by omega),cond_true,ai c1,ai (show(0:Int)<=1 by decide),AA i j (by omega),au hm,M,Sa,ae2,dN g,cond_false]
       · by_cases e:t=(i+j)/2
         · subst e;exact g
         · intro z;have:=hs.nth (show(i+j)/2<t by omega) h
           exact g (ke.xN this (by omega))
       · show((((i+j)/2:Nat):Int) - (i:Int)).toNat<((j:Int) - (i:Int)).toNat;omega
   · have e:i=j:=by omega
     subst e;refine .inr ⟨(T,(T.length:Int),(i:Int),w.1,w.2,()),?_,i,rfl,D,N,up⟩;simp only[CH,as2,decide_false,cond_false]
theorem var_eq (c:pt) (hs:mv c.2.2) (hT:c.2.2.length<=60000) (M:c.1.length<=360) (w:Want):qe c w=some (cN c.1.length c.2.2 w):=by
 unfold qe cN;obtain⟨i,F,D⟩:=am3 c.2.2 hs hT w;rw[F];rcases kX c.2.2 (fun x=>decide (x=w)) with⟨q,p⟩ |⟨j,J,_,p,_,q⟩
 · grind
 · have D:=D q;rw[p] at D;rw[p];subst D;have c1:aa .i64 (c.1.length+j):=bd (by omega)
   simp (disch:=omega) only[K0,q]
theorem aqx {l:List Int} (h:dV l):Uk l=true:=by unfold Uk;rw[List.all_eq_true];intro x D;obtain⟨a,b⟩:=h x D;rw[dY a,dY b];rfl
theorem ua (l:List Int) (h:dV l) (D:l.length<=1000000):mC l=some (bV l,l):=by unfold mC;rw[aqx h,dY D];rfl
theorem Y0 (s:List aY) (hs:s.length<=100000000) (v:aY):nH s v=some (s.any fun x=>decide (x=v)):=by
 unfold nH PQ;have main:=iT (f:=CX) s (fun x=>decide (x=v)) (fun k=>(s,s.length,k,v.1,v.2.1,v.2.2.1,v.2.2.2.1,v.2.2.2.2,())) (fun k=>.inr (k,())) (.inl ()) ?_ ?_ ?_
 · rw[kj main ?st]
   case st=>rfl
   have F:=o9 s (fun x=>decide (x=v)) inferInstance;rw[<-F];unfold bG;cases s.findIdx? (fun x=>decide (x=v))<;>rfl
 · intro k hk hp;have hp:=of_decide_eq_false hp;have D:(decide (v.1=(s[k]).1)&&(decide (v.2.1=(s[k]).2.1)&&(decide (v.2.2.1=(s[k]).2.2.1)&&(decide (v.2.2.2.1=(s[k]).2.2.2.1)&&decide (v.2.2.2.2=(s[k]).2.2.2.2)))))=false:=by grind
   simp (disch:=omega) only[K0,CX,D]
 · intro k hk hp;have hp:=of_decide_eq_true hp;have D:(decide (v.1=(s[k]).1)&&(decide (v.2.1=(s[k]).2.1)&&(decide (v.2.2.1=(s[k]).2.2.1)&&(decide (v.2.2.2.1=(s[k]).2.2.2.1)&&decide (v.2.2.2.2=(s[k]).2.2.2.2)))))=true:=by grind
   simp (disch:=omega) only[K0,CX,D]
 · simp[CX]
theorem abO (s:List aY) (v:aY):(s.any fun x=>decide (x=v))=decide (v∈s):=by grind
theorem Q1 {D:Nat->aY} {F:Nat->Nat->aY} {ns:List al} {f:aY} (h:f∈r6 D F ns):(∃i,f=D i)\/ ∃i k,f=F i k:=by
 obtain⟨i,J,h⟩:=dG.1 h;rcases at3.1 h with h |h
 · grind
 · obtain⟨k,hk,h⟩:=dG.1 h;exact .inr ⟨i,k,at5.1 h⟩
theorem Xj {i:Nat} {e:bO} {f:aY} (h:f∈o7 i e):(f.1=4\/f.1=5)/\f.2.1=(i:Int):=by
 rcases Q1 h with⟨k,rfl⟩ |⟨k,j,rfl⟩
 · grind
 · grind
theorem X2 {A:List aq} {i:Nat} {e:bO} {f:aY} (h:f∈pf A i e):(f.1=3\/f.1=9)/\f.2.1=(i:Int):=by
 rcases as3.1 h with h |h
 · obtain⟨k,hk,h⟩:=dG.1 h;split at h
   · grind
   · grind
 · obtain⟨k,hk,h⟩:=dG.1 h;obtain⟨j,D,h⟩:=dG.1 h;rw[at5.1 h];exact⟨.inr rfl,rfl⟩
theorem Yd {T:bf} {i:Nat} {e:bO} {f:aY} (h:f∈n4 T i e):(f.1=6\/f.1=7\/f.1=8)/\f.2.1=(i:Int):=by
 obtain⟨t,D,h⟩:=dG.1 h;unfold wU at h;split at h
 · cases g:eP e (T[t]).2 with
   |none=>grind
   |some x=>
    rw[g] at h;rcases Q1 h with⟨k,rfl⟩ |⟨k,j,rfl⟩
    · grind
    · grind
 · grind
theorem FB {A:List aq} {R:List al} {T:bf} {f:aY} (h:f∈iY A R T):(f.1=1\/f.1=2)\/ ∃i,∃D:i<A.length,f.2.1=(i:Int)/\(((f.1=4\/f.1=5)/\f∈o7 i (A[i]).1)\/((f.1=3\/f.1=9)/\f∈pf A i (A[i]).1)\/((f.1=6\/f.1=7\/f.1=8)/\f∈n4 T i (A[i]).1)):=by
 rcases as3.1 h with h |h
 · rcases Q1 h with⟨k,rfl⟩ |⟨k,j,rfl⟩
   · omega
   · omega
 · obtain⟨i,D,h⟩:=dG.1 h;refine .inr ⟨i,D,?_⟩;rcases as3.1 h with h |h
   · rcases as3.1 h with h |h
     · exact⟨(Xj h).2,.inl ⟨(Xj h).1,h⟩⟩
     · exact⟨(X2 h).2,.inr (.inl ⟨(X2 h).1,h⟩)⟩
   · exact⟨(Yd h).2,.inr (.inr ⟨(Yd h).1,h⟩)⟩
theorem aoG {A:List aq} {R:List al} {T:bf} {f:aY} {i:Nat} (D:i<A.length) (h:f∈mU A T i (A[i]).1):f∈iY A R T:=as3.2 (.inr (dG.2 ⟨i,D,h⟩))
theorem ZA (A:List aq) (hA:bu A) (R:List al) (hR:bM R) (hT:(ax A R).length<=400) (f:aY):lK (bn A R) f=some (decide (f∈iY A R (ax A R))):=by
 have hs:=hA.many;obtain⟨N,g1,g2,_⟩:=L2 A hA R hR hT;have hlen:=RY A hA R hR (ax A R) (by omega)
 have hmul:(2000+40*(ax A R).length)*A.length<=18000*360:=Nat.mul_le_mul (by omega) hs
 have an:=g2.length_eq
 have ah:nH N f=some (decide (f∈iY A R (ax A R))):=by
  rw[Y0 N (by omega),abO]
  congr 1;by_cases h:f∈iY A R (ax A R)
  · rw[dY h,dY (g2.mem_iff.2 h)]
  · rw[dN h,dN (fun q=>h (g2.mem_iff.1 q))]
 have O:(bn A R).1.length=A.length:=by show(A.map bN).length=_;rw[ae4]
 have M:(∀q:f∈iY A R (ax A R),False)->decide (f∈iY A R (ax A R))=false:=fun q=>dN (fun h=>q h) _;unfold lK;by_cases Y:f.1<1
 · rw[dY Y,cond_true,M];intro h;rcases FB h with h |⟨i,F,_,h⟩<;>omega
 rw[dN Y,cond_false];by_cases k9:9<f.1
 · rw[dY k9,cond_true,M];intro h;rcases FB h with h |⟨i,F,_,h⟩<;>omega
 rw[dN k9,cond_false];by_cases k1:f.1=1
 · grind
 rw[dN k1,cond_false];by_cases k2:f.1=2
 · rw[dY k2,cond_true,g1,ae2,ah];rfl
 rw[dN k2,cond_false];by_cases n0:f.2.1<0
 · rw[dY n0,cond_true,M];intro h;rcases FB h with h |⟨i,F,_,h⟩<;>omega
 rw[dN n0,cond_false];by_cases n1:(A.length:Int)<=f.2.1
 · rw[dY (by rw[O];exact n1),cond_true,M]
   intro h;rcases FB h with h |⟨i,F,_,h⟩<;>omega
 rw[dN (by rw[O];exact n1),cond_false]
 obtain⟨i,F⟩: ∃i:Nat,f.2.1=(i:Int):=⟨f.2.1.toNat,by omega⟩
 have J:i<A.length:=by omega
 have he:=hA.cV _ (ae3 J);have U:=L3 A hs (ax A R) (by omega) i (A[i]).1 he
 unfold mU at U;simp only[as0] at U
 have same: ∀{P:Prop} (s:List aY),s.length<=100000000->(f∈s->f∈mU A (ax A R) i (A[i]).1)->(f∈iY A R (ax A R)->f∈s)->nH s f=some (decide (f∈iY A R (ax A R))):=by
  intro P s h1 h2 h3;rw[Y0 s h1,abO];congr 1;by_cases h:f∈iY A R (ax A R)
  · rw[dY h,dY (h3 h)]
  · rw[dN h,dN (fun q=>h (aoG J (h2 q)))]
 have D:f∈iY A R (ax A R)->(((f.1=4\/f.1=5)/\f∈o7 i (A[i]).1)\/((f.1=3\/f.1=9)/\f∈pf A i (A[i]).1)\/((f.1=6\/f.1=7\/f.1=8)/\f∈n4 (ax A R) i (A[i]).1)):=by
  intro h;rcases FB h with h |⟨j,hj,e,h⟩
  · omega
  · have:j=i:=by omega
    subst this;exact h
 have s1:=same (P:=True) (o7 i (A[i]).1) (by omega) (fun q=>as3.2 (.inl (as3.2 (.inl q))))
 have s2:=same (P:=True) (pf A i (A[i]).1) (by omega) (fun q=>as3.2 (.inl (as3.2 (.inr q))))
 have s3:=same (P:=True) (n4 (ax A R) i (A[i]).1) (by omega) (fun q=>as3.2 (.inr q))
 have q1:=Yv A hA (bn A R) rfl i J;have q2:=ZT A hA (bn A R) rfl i J;have q3:yp (bn A R) (i:Int)=some (n4 (ax A R) i (A[i]).1):=aax A hA (bn A R) rfl (show(ax A R).length<=60000 by omega) i J
 rw[F];by_cases Z:f.1=4
 · rw[dY Z,cond_true,q1,ae2,s1 (fun h=>by rcases D h with h |h |h<;>first |exact h.2 |(exfalso;omega))];rfl
 rw[dN Z,cond_false];by_cases k5:f.1=5
 · rw[dY k5,cond_true,q1,ae2,s1 (fun h=>by rcases D h with h |h |h<;>first |exact h.2 |(exfalso;omega))];rfl
 rw[dN k5,cond_false];by_cases k3:f.1=3
 · rw[dY k3,cond_true,q2,ae2,s2 (fun h=>by rcases D h with h |h |h<;>first |(exfalso;omega) |exact h.2)];rfl
 rw[dN k3,cond_false];by_cases kk:f.1=9
 · rw[dY kk,cond_true,q2,ae2,s2 (fun h=>by rcases D h with h |h |h<;>first |(exfalso;omega) |exact h.2)];rfl
 rw[dN kk,cond_false,q3,ae2,s3 (fun h=>by rcases D h with h |h |h<;>first |(exfalso;omega) |exact h.2)];rfl
theorem EJ {A:List aq} {T:bf} {J:Nat->aY} {M:Nat->Nat->aY} {D:List Int} {ns:List al} {l:bT} (h:l∈lR A T J M D ns):
  ∃i,∃F:i<ns.length,l=(J i,bV (D++fq A ns[i]))\/ ∃k,∃hk:k<(ns[i]).2.2.length,l=(M i k,bV (D++[cN A.length T ((ns[i]).1,(ns[i]).2.2[k])])):=by
 obtain⟨i,F,h⟩:=dG.1 h;refine⟨i,F,?_⟩;rcases at3.1 h with h |h
 · grind
 · obtain⟨k,hk,h⟩:=dG.1 h;exact .inr ⟨k,hk,at5.1 h⟩
theorem Tp (A:List aq) (R:List al):(bn A R).2.1=R.map aO:=rfl
theorem aq0 (A:List aq) (R:List al):(bn A R).2.2=ax A R:=rfl
theorem wT {ns:List al} {k:Nat} (h:k<ns.length) {R:Type} (f:dC->Option R):(ag (ns.map aO) (k:Int)).bind f=f (aO ns[k]):=by rw[au (l:=ns.map aO) (by grind),au5]
theorem aaZ (A:List aq) (hA:bu A) (R:List al) (hT:(ax A R).length<=400) (w:Want):qe (bn A R) w=some (cN A.length (ax A R) w):=by
 have hs:=hA.many;have:=var_eq (bn A R) (Kl _) (show(ax A R).length<=60000 by omega) (by rw[nV,ae4];exact hs) w
 rw[nV,ae4] at this;exact this
theorem Tq (A:List aq) (hA:bu A) (R:List al) (hT:(ax A R).length<=400) (n:al) (k:Nat) (hk:k<n.2.2.length):yI (bn A R) (aO n) (k:Int)=some (cN A.length (ax A R) (n.1,n.2.2[k])):=by unfold yI;show(ag n.2.2 k).bind _=_;rw[au hk];show(qe (bn A R) (n.1,n.2.2[k])).bind _=_;rw[aaZ A hA R hT];rfl
theorem aaz (A:List aq) (hA:bu A) (R:List al) (i t:Nat) (D:i<A.length) (M:t<(ax A R).length) (fd:fv) (hf:eP (A[i]).1 ((ax A R)[t]).2=some fd) (q a b:Int):C1 (bn A R) (q,(i:Int),(t:Int),a,b)=some (ee fd):=by
 have he:=hA.cV _ (ae3 D);have N:=he.iW;unfold C1;simp only[nV,kC D];show(ag (ax A R) t).bind _=_;rw[au M]
 have F:qb (bN A[i]).1 ((ax A R)[t]).2=some (bG (A[i]).1.2.2.2.2.2.2.2 (fun f=>decide (f.1=((ax A R)[t]).2))):=by
  rw[My _ _ (by show(((A[i]).1.2.2.2.2.2.2.2.map ee).length)<=1000;rw[ae4];omega)]
  show some (bG ((A[i]).1.2.2.2.2.2.2.2.map ee) _)=_;rw[Sm];rfl
 rw[F];unfold eP at hf;rcases kX (A[i]).1.2.2.2.2.2.2.2 (fun f=>decide (f.1=((ax A R)[t]).2)) with⟨_,p⟩ |⟨j,J,_,p,_,_⟩
 · grind
 · simp (disch:=omega) only[K0,p,ae9 J] at hf;rw[p];show(ag ((A[i]).1.2.2.2.2.2.2.2.map ee) j).bind _=_;rw[au (by grind),au5,Option.some.inj hf]
theorem aae (A:List aq) (hA:A.length<=360) (i:Nat) (D:i<A.length):dV [neg i]:=wj (by unfold neg;omega)
theorem ao7 {x y:Int} (h:x.natAbs<y.natAbs):bV [x,y]=[x,y]:=by refine(Mo (l:=[x,y]) ?_ fun z=>Iff.rfl).symm;refine List.pairwise_cons.2 ⟨fun z D=>?_,List.pairwise_singleton _ _⟩;rw[at5.1 D];exact Al.1 (by unfold ot;rw[dY h];rfl)
theorem apR {a b:List Int}: ∀z,z∈a++b<->z∈b++a:=by grind
section
variable (A:List aq) (hA:bu A) (R:List al) (hR:bM R) (hT:(ax A R).length<=400)
include hA
theorem cl1 (hR:bM R) (i:Nat) (D:i<R.length) (M:lK (bn A R) (1,(i:Int),0,0,0)=some true):fg (bn A R) (1,(i:Int),0,0,0)=some (bV ([]++fq A R[i]),true):=by
 have hs:=hA.many;have hm:=hR.many;have F:=hR.dO _ (ae3 D);have c1:aa .i64 (i+1):=bd (by omega)
 have c2:aa .i64 (0 - (i+1)):=bd (by omega)
 have J:=Yt A hA (bn A R) rfl R[i] F.2.1;have N:=EY A R[i];unfold fg;rw[M,ae2,ae8,cond_false,List.nil_append];dsimp only;rw[ai c1,ai c2,dY (show(1:Int)=1 from rfl),cond_true,Tp,wT D,J,ae2,ua _ (Fe A hs R[i]) (by omega),ae2]
theorem cl2 (hR:bM R) (hT:(ax A R).length<=400) (i:Nat) (D:i<R.length) (k:Nat) (hk:k<(R[i]).2.2.length) (J:lK (bn A R) (2,(i:Int),(k:Int),0,0)=some true):fg (bn A R) (2,(i:Int),(k:Int),0,0)=some (bV ([]++[cN A.length (ax A R) ((R[i]).1,(R[i]).2.2[k])]),true):=by
 have hm:=hR.many;have c1:aa .i64 (i+1):=bd (by omega)
 have c2:aa .i64 (0 - (i+1)):=bd (by omega)
 have F:bV ([]++[cN A.length (ax A R) ((R[i]).1,(R[i]).2.2[k])])=[cN A.length (ax A R) ((R[i]).1,(R[i]).2.2[k])]:=rfl;rw[F];unfold fg;rw[J,ae2,ae8,cond_false];dsimp only;rw[ai c1,ai c2,dN (show¬(2:Int)=1 by decide),cond_false,dY (show(2:Int)=2 from rfl),cond_true,Tp,wT D,Tq A hA R hT R[i] k hk,ae2]
theorem cl3 (i:Nat) (N:i<A.length) (j:Nat) (O:j<A.length) (M:lK (bn A R) (3,(i:Int),(j:Int),0,0)=some true):fg (bn A R) (3,(i:Int),(j:Int),0,0)=some (bV [neg i,neg j],true):=by
 have hs:=hA.many;have c1:aa .i64 (i+1):=bd (by omega)
 have c2:aa .i64 (neg i):=bd (by unfold neg;omega)
 have D:aa .i64 (j+1):=bd (by omega)
 have F:aa .i64 (neg j):=bd (by unfold neg;omega)
 have J: ∀x:Int,0 - (x+1)=neg x:=fun x=>by unfold neg;rfl
 unfold fg;rw[M,ae2,ae8,cond_false];simp only[J];rw[ai c1,ai c2,dN (show¬(3:Int)=1 by decide),cond_false,dN (show¬(3:Int)=2 by decide),cond_false,decide_true,cond_true,ai D,ai F,ua [neg i,neg j] (o6 (by grind) (by grind)) (by simp),ae2]
theorem cl9 (i:Nat) (N:i<A.length) (k:Nat) (y:Int) (O:0<=y/\y<360) (M:lK (bn A R) (9,(i:Int),(k:Int),y,0)=some true):fg (bn A R) (9,(i:Int),(k:Int),y,0)=some (bV [neg i,neg y],true):=by
 have hs:=hA.many;have c1:aa .i64 (i+1):=bd (by omega)
 have c2:aa .i64 (neg i):=bd (by unfold neg;omega)
 have D:aa .i64 (y+1):=bd (by omega)
 have F:aa .i64 (neg y):=bd (by unfold neg;omega)
 have J: ∀x:Int,0 - (x+1)=neg x:=fun x=>by unfold neg;rfl
 unfold fg;rw[M,ae2,ae8,cond_false];simp only[J];rw[ai c1,ai c2,dN (show¬(9:Int)=1 by decide),cond_false,dN (show¬(9:Int)=2 by decide),cond_false,dN (show¬(9:Int)=3 by decide),cond_false,dN (show¬(9:Int)=4 by decide),cond_false,dN (show¬(9:Int)=5 by decide),cond_false,decide_true,cond_true,ai D,ai F,ua [neg i,neg y] (o6 (by grind) (by grind)) (by simp),ae2]
theorem cl4 (i:Nat) (D:i<A.length) (k:Nat) (hk:k<(A[i]).1.2.2.2.2.2.2.1.length) (U:lK (bn A R) (4,(i:Int),(k:Int),0,0)=some true):fg (bn A R) (4,(i:Int),(k:Int),0,0)=some (bV ([neg i]++fq A (A[i]).1.2.2.2.2.2.2.1[k]),true):=by
 have hs:=hA.many;have he:=hA.cV _ (ae3 D);have c1:aa .i64 (i+1):=bd (by omega)
 have c2:aa .i64 (neg i):=bd (by unfold neg;omega)
 have F: ∀x:Int,0 - (x+1)=neg x:=fun x=>by unfold neg;rfl
 have N:=he.dO _ (ae3 hk);have O:=Yt A hA (bn A R) rfl (A[i]).1.2.2.2.2.2.2.1[k] N.2.1;have Y:=EY A (A[i]).1.2.2.2.2.2.2.1[k];have M:(bN A[i]).1.2.2.2.2.2.2.1=(A[i]).1.2.2.2.2.2.2.1.map aO:=Eq.trans rfl rfl;have k1:(fq A (A[i]).1.2.2.2.2.2.2.1[k]).length+[neg i].length<=1000000000:=by grind
 have J:=ua (fq A (A[i]).1.2.2.2.2.2.2.1[k]++[neg i]) (tP (Fe A hs _) (aae A hs i D)) (by grind)
 rw[al1 apR];unfold fg;rw[U,ae2,ae8,cond_false];simp only[F];rw[ai c1,ai c2,dN (show¬(4:Int)=1 by decide),cond_false,dN (show¬(4:Int)=2 by decide),cond_false,dN (show¬(4:Int)=3 by decide),cond_false,decide_true,cond_true,nV,kC D,M,wT hk,O,ae2,ai k1,J,ae2]
theorem cl5 (hT:(ax A R).length<=400) (i:Nat) (D:i<A.length) (k:Nat) (hk:k<(A[i]).1.2.2.2.2.2.2.1.length) (j:Nat) (M:j<((A[i]).1.2.2.2.2.2.2.1[k]).2.2.length) (O:lK (bn A R) (5,(i:Int),(k:Int),(j:Int),0)=some true):
  fg (bn A R) (5,(i:Int),(k:Int),(j:Int),0)=some (bV ([neg i]++[cN A.length (ax A R) (((A[i]).1.2.2.2.2.2.2.1[k]).1,((A[i]).1.2.2.2.2.2.2.1[k]).2.2[j])]),true):=by
 have hs:=hA.many;have he:=hA.cV _ (ae3 D);have c1:aa .i64 (i+1):=bd (by omega)
 have c2:aa .i64 (neg i):=bd (by unfold neg;omega)
 have J: ∀x:Int,0 - (x+1)=neg x:=fun x=>by unfold neg;rfl
 have N:(bN A[i]).1.2.2.2.2.2.2.1=(A[i]).1.2.2.2.2.2.2.1.map aO:=Eq.trans rfl rfl;have U: ∀w,dV [cN A.length (ax A R) w]:=fun w=>wj (by have:=Et A.length (ax A R) w;omega)
 have F:=ua ([neg i]++[cN A.length (ax A R) (((A[i]).1.2.2.2.2.2.2.1[k]).1,((A[i]).1.2.2.2.2.2.2.1[k]).2.2[j])]) (tP (aae A hs i D) (U _)) (by simp)
 rw[List.singleton_append] at F⊢;unfold fg;rw[O,ae2,ae8,cond_false];simp only[J];rw[ai c1,ai c2,dN (show¬(5:Int)=1 by decide),cond_false,dN (show¬(5:Int)=2 by decide),cond_false,dN (show¬(5:Int)=3 by decide),cond_false,dN (show¬(5:Int)=4 by decide),cond_false,decide_true,cond_true,nV,kC D,N,wT hk,Tq A hA R hT _ j M,ae2,F,ae2]
theorem cl6 (hT:(ax A R).length<=400) (i:Nat) (Y:i<A.length) (t:Nat) (Z:t<(ax A R).length) (U:lK (bn A R) (6,(i:Int),(t:Int),0,0)=some true):
  fg (bn A R) (6,(i:Int),(t:Int),0,0)=some ([neg i,neg ((A.length:Int)+(t:Int))],true):=by
 have hs:=hA.many;have c1:aa .i64 (i+1):=bd (by omega)
 have c2:aa .i64 (neg i):=bd (by unfold neg;omega)
 have M: ∀x:Int,0 - (x+1)=neg x:=fun x=>by unfold neg;rfl
 have D:aa .i64 (A.length+t):=bd (by omega)
 have F:aa .i64 (A.length+t+1):=bd (by omega)
 have J:aa .i64 (neg (A.length+t)):=bd (by grind)
 have N:dV [neg i,neg (A.length+t)]:=o6 (by grind) (by grind)
 have O:bV [neg i,neg (A.length+t)]=[neg i,neg (A.length+t)]:=ao7 (by grind)
 unfold fg;rw[U,ae2,ae8,cond_false];simp only[M];rw[ai c1,ai c2,dN (show¬(6:Int)=1 by decide),cond_false,dN (show¬(6:Int)=2 by decide),cond_false,dN (show¬(6:Int)=3 by decide),cond_false,dN (show¬(6:Int)=4 by decide),cond_false,dN (show¬(6:Int)=5 by decide),cond_false,dN (show¬(6:Int)=9 by decide),cond_false,nV,ae4,ai D,ai F,ai J,dN (show¬(6:Int)=7 by decide),cond_false,dN (show¬(6:Int)=8 by decide),cond_false,ua _ N (by simp),ae2,O]
theorem cl7 (hT:(ax A R).length<=400) (i:Nat) (D:i<A.length) (t:Nat) (ht:t<(ax A R).length) (fd:fv) (hf:eP (A[i]).1 ((ax A R)[t]).2=some fd) (k:Nat) (hk:k<fd.2.length) (an:lK (bn A R) (7,(i:Int),(t:Int),(k:Int),0)=some true):
  fg (bn A R) (7,(i:Int),(t:Int),(k:Int),0)=some (bV ([neg i,neg ((A.length:Int)+(t:Int))]++fq A fd.2[k]),true):=by
 have hs:=hA.many;have he:=hA.cV _ (ae3 D);have c1:aa .i64 (i+1):=bd (by omega)
 have c2:aa .i64 (neg i):=bd (by unfold neg;omega)
 have N: ∀x:Int,0 - (x+1)=neg x:=fun x=>by unfold neg;rfl
 have F:aa .i64 (A.length+t):=bd (by omega)
 have J:aa .i64 (A.length+t+1):=bd (by omega)
 have M:aa .i64 (neg (A.length+t)):=bd (by grind)
 have O:dV [neg i,neg (A.length+t)]:=o6 (by grind) (by grind)
 have Z:=(he.qK (ES hf)).dO _ (ae3 hk);have ah:=aqc A hA (bn A R) rfl (fd.2[k]) Z.2.1;have ar:=EY A (fd.2[k]);have Y:(ee fd).2=fd.2.map aO:=Eq.trans rfl rfl;have k1:[neg i,neg (A.length+t)].length+(fq A fd.2[k]).length<=1000000000:=by grind
 have U:=ua ([neg i,neg (A.length+t)]++fq A fd.2[k]) (tP O (Fe A hs _)) (by grind)
 unfold fg;rw[an,ae2,ae8,cond_false];simp only[N];rw[ai c1,ai c2,dN (show¬(7:Int)=1 by decide),cond_false,dN (show¬(7:Int)=2 by decide),cond_false,dN (show¬(7:Int)=3 by decide),cond_false,dN (show¬(7:Int)=4 by decide),cond_false,dN (show¬(7:Int)=5 by decide),cond_false,dN (show¬(7:Int)=9 by decide),cond_false,nV,ae4,ai F,ai J,ai M,decide_true,cond_true,aaz A hA R i t D ht fd hf,ae2,Y,wT hk,ah,ae2,ai k1,U,ae2]
theorem cl8 (hT:(ax A R).length<=400) (i:Nat) (U:i<A.length) (t:Nat) (ht:t<(ax A R).length) (fd:fv) (hf:eP (A[i]).1 ((ax A R)[t]).2=some fd) (k:Nat) (hk:k<fd.2.length) (j:Nat) (Y:j<(fd.2[k]).2.2.length) (ah:lK (bn A R) (8,(i:Int),(t:Int),(k:Int),(j:Int))=some true):
  fg (bn A R) (8,(i:Int),(t:Int),(k:Int),(j:Int))=some (bV ([neg i,neg ((A.length:Int)+(t:Int))]++[cN A.length (ax A R) ((fd.2[k]).1,(fd.2[k]).2.2[j])]),true):=by
 have hs:=hA.many;have c1:aa .i64 (i+1):=bd (by omega)
 have c2:aa .i64 (neg i):=bd (by unfold neg;omega)
 have M: ∀x:Int,0 - (x+1)=neg x:=fun x=>by unfold neg;rfl
 have D:aa .i64 (A.length+t):=bd (by omega)
 have F:aa .i64 (A.length+t+1):=bd (by omega)
 have J:aa .i64 (neg (A.length+t)):=bd (by grind)
 have N:dV [neg i,neg (A.length+t)]:=o6 (by grind) (by grind)
 have Z:(ee fd).2=fd.2.map aO:=Eq.trans rfl rfl;have an: ∀w,dV [cN A.length (ax A R) w]:=fun w=>wj (by have:=Et A.length (ax A R) w;omega)
 have k1: ∀y:Int,[neg i,neg (A.length+t)].length+[y].length<=1000000000:=fun y=>by simp (disch:=omega) only[K0];omega
 have O:=ua ([neg i,neg (A.length+t)]++[cN A.length (ax A R) ((fd.2[k]).1,(fd.2[k]).2.2[j])]) (tP N (an _)) (by simp)
 unfold fg;rw[ah,ae2,ae8,cond_false];simp only[M];rw[ai c1,ai c2,dN (show¬(8:Int)=1 by decide),cond_false,dN (show¬(8:Int)=2 by decide),cond_false,dN (show¬(8:Int)=3 by decide),cond_false,dN (show¬(8:Int)=4 by decide),cond_false,dN (show¬(8:Int)=5 by decide),cond_false,dN (show¬(8:Int)=9 by decide),cond_false,nV,ae4,ai D,ai F,ai J,dN (show¬(8:Int)=7 by decide),cond_false,decide_true,cond_true,aaz A hA R i t U ht fd hf,ae2,Z,wT hk,Tq A hA R hT _ j Y,ae2,ai (k1 _),O,ae2]
end
theorem XH (A:List aq) (hA:bu A) (R:List al) (hR:bM R) (hT:(ax A R).length<=400) (l:bT) (h:l∈lp A R (ax A R)):fg (bn A R) l.1=some (l.2,true):=by
 have F:lK (bn A R) l.1=some true:=by rw[ZA A hA R hR hT,dY];exact(RX A R (ax A R)).mem_iff.1 (au0.2 ⟨l,h,rfl⟩)
 unfold lp at h;rcases as3.1 h with h |h
 · rw[mk_1.1,mk_1.2] at h;obtain⟨i,D,h⟩:=EJ h;rcases h with rfl |⟨k,hk,rfl⟩
   · exact cl1 A hA R hR i D F
   · exact cl2 A hA R hR hT i D k hk F
 · obtain⟨i,D,h⟩:=dG.1 h;unfold mR at h;rcases as3.1 h with h |h
   · rcases as3.1 h with h |h
     · rcases as3.1 h with h |h
       · obtain⟨k,hk,h⟩:=dG.1 h;rw[au4] at hk;split at h
         · have h:=at5.1 h;subst h;exact cl3 A hA R i D (i+1+k) (by omega) F
         · grind
       · rw[(mk_4 i).1,(mk_4 i).2] at h;obtain⟨k,hk,h⟩:=EJ h;rcases h with rfl |⟨j,J,rfl⟩
         · exact cl4 A hA R i D k hk F
         · exact cl5 A hA R hT i D k hk j J F
     · obtain⟨t,M,h⟩:=dG.1 h;unfold sj at h;split at h
       · cases hf:eP (A[i]).1 ((ax A R)[t]).2 with
         |none=>rw[hf] at h;have h:=at5.1 h;subst h;exact cl6 A hA R hT i D t M F
         |some fd=>
          rw[hf] at h;simp only[] at h;rw[(mk_7 i t).1,(mk_7 i t).2] at h;obtain⟨k,hk,h⟩:=EJ h;rcases h with rfl |⟨j,J,rfl⟩
          · exact cl7 A hA R hT i D t M fd hf k hk F
          · exact cl8 A hA R hT i D t M fd hf k hk j J F
       · cases h
   · obtain⟨k,hk,h⟩:=dG.1 h;obtain⟨j,J,h⟩:=dG.1 h;have h:=at5.1 h;have N:0<=(eT A (A[i]).1.2.2.2.2.2.1[k])[j]/\(eT A (A[i]).1.2.2.2.2.2.1[k])[j]<360:=by have hs:=hA.many;obtain⟨z,O,q,_⟩:=wC.1 (ae3 J);rw[q];omega
     subst h;exact cl9 A hA R i D k _ N F
theorem Fh (a:List Int) (D:a.length<=1000000000):oZ a a=some true:=by
 unfold oZ;simp (disch:=omega) only[K0];have main:=kg (f:=K4) a (fun _=>true) (fun k=>(a,a,k,())) (.inl ()) (.inr ()) ?_ ?_ ?_
 · grind
 · intro k hk _;simp only[K4,dY (show(k)<(a.length:Int) by omega),cond_true,au hk,decide_true,ae8,cond_false,aw (show k+1<=4611686018427387904 by omega),aH]
 · grind
 · simp[K4]
theorem ZI (A:List aq) (hA:A.length<=360) (R:List al) (hT:(ax A R).length<=400) (l:bT) (O:l∈lp A R (ax A R)):l.2.length<=1000/\dV l.2:=by
 have lN: ∀{m:List Int},dV m->dV (bV m):=fun{m} h x J=>h x (((tC m).2 x).1 J);have an: ∀i:Nat,i<=1000->dV [neg i]:=fun i h=>wj (by unfold neg;omega)
 have F: ∀(U:Nat->aY) (Y:Nat->Nat->aY) (D:List Int) (ns:List al),D.length<=10->dV D->l∈lR A (ax A R) U Y D ns->l.2.length<=1000/\dV l.2:=by
  intro U Y D ns ar M hq;obtain⟨i,Z,q⟩:=EJ hq;rcases q with rfl |⟨k,hk,rfl⟩
  · have:=L0 (D++fq A ns[i]);have h2:=EY A ns[i];rw[as0] at this;exact⟨by show(bV (D++fq A ns[i])).length<=_;omega,lN (tP M (Fe A hA _))⟩
  · have:=L0 (D++[cN A.length (ax A R) ((ns[i]).1,(ns[i]).2.2[k])]);have hr:=Et A.length (ax A R) ((ns[i]).1,(ns[i]).2.2[k]);rw[as0,au7] at this;exact⟨by show(bV _).length<=_;omega,lN (tP M (wj (by omega)))⟩
 unfold lp at O;rcases as3.1 O with q |q
 · exact F _ _ _ _ (ae6 _) (fun x J=>(av6 J).elim) q
 · obtain⟨i,Z,q⟩:=dG.1 q;unfold mR at q;rcases as3.1 q with q |q
   · rcases as3.1 q with q |q
     · rcases as3.1 q with q |q
       · obtain⟨k,hk,q⟩:=dG.1 q;rw[au4] at hk;split at q
         · rw[at5.1 q];exact⟨au2 (L0 _) (by simp),lN (o6 (by unfold neg;omega) (by unfold neg;omega))⟩
         · cases q
       · exact F _ _ _ _ (by simp) (an i (by omega)) q
     · obtain⟨t,ht,q⟩:=dG.1 q;have N:dV [neg i,neg ((A.length:Int)+(t:Int))]:=o6 (by unfold neg;omega) (by unfold neg;omega)
       unfold sj at q;split at q
       · cases hf:eP (A[i]).1 ((ax A R)[t]).2 with
         |none=>rw[hf] at q;rw[at5.1 q];exact⟨(by decide:2<=1000),N⟩
         |some fd=>rw[hf] at q;exact F _ _ _ _ (by simp) N q
       · cases q
   · obtain⟨k,hk,q⟩:=dG.1 q;obtain⟨j,hj,q⟩:=dG.1 q;obtain⟨z,hz,e,_⟩:=wC.1 (ae3 hj);rw[at5.1 q];exact⟨au2 (L0 _) (by simp),lN (o6 (by unfold neg;omega) (by rw[e];unfold neg;omega))⟩
theorem Yc (A:List aq) (hA:bu A) (R:List al) (hR:bM R) (ls:List bT) (hf:nK (bn A R)=some (ls.map (·.1))) (D: ∀l∈ls,fg (bn A R) l.1=some (l.2,true)) (N:ls.length<=900000000):yu (bn A R)=some (((A.length+(ax A R).length:Nat):Int),ls.map (·.2)):=by
 unfold yu;rw[(FO A hA R hR).1,ae2,hf,ae2];have main:=qt (f:=IW) ls (fun l=>l.2) (fun k acc=>(bn A R,ls.map (·.1),((ls.map (·.1)).length:Int),(k:Int),0,((A.length+(ax A R).length:Nat):Int),acc,())) (fun acc=>(0,((A.length+(ax A R).length:Nat):Int),acc,())) ?_ ?_
 · rw[kj main ?st]
   case st=>rfl
   rfl
 · intro k hk acc M;have J:k<(ls.map (·.1)).length:=by rw[ae4];exact hk
   have F:(ls.map (·.1))[k]=(ls[k]).1:=au5 _
   simp only[IW,ae4,dY (show((k:Nat):Int)<(ls.length:Int) by omega),cond_true,au J,F,D _ (ae3 hk),ae2,ib (x:=(ls[k]).2) (show acc.length<=999999999 by omega),aw (show k+1<=4611686018427387904 by omega),aH]
 · simp only[IW,ae4,as2,decide_false,cond_false]
theorem SJ (A:List aq) (R:List al) (j:Nat) (F:j<(ax A R).length):cN A.length (ax A R) (ax A R)[j]=(A.length:Int)+(j:Int)+1:=by
 have hs:mv (ax A R):=Kl _;unfold cN;rcases kX (ax A R) (fun x=>decide (x=(ax A R)[j])) with⟨q,_⟩ |⟨i,D,_,q,p,_⟩
 · grind
 · have p:=of_decide_eq_true p
   have:i=j:=by
    rcases ay7 i j with d |d |d
    · have:=hs.nth d F;rw[p,ke.self] at this;omega
    · omega
    · have:=hs.nth d D;rw[p,ke.self] at this;omega
   omega
theorem RF (p t:List UInt8) (J:List (List UInt8)) (m:List UInt8):
  (∃A R,bu A/\bM R/\(ax A R).length<=400/\A.length+(ax A R).length<=400/\oW ((p,t,J),m)=some (.inl ((A.map bN,R.map aO,A,R),bn A R,ij A R,())))\/
  pn (oW ((p,t,J),m)) (fun o=> ∃b,o=.inr b):=by
 unfold oW;rcases RE p t J m with⟨A,R,hA,hR,F⟩ |F
 · have hs:=hA.many;have N:=S8 A hA R hR;have M:=TF A hA R hR;simp only[F,ae2,ae8,cond_false,N,M];by_cases e:400<A.length+(ax A R).length
   · rw[if_pos e];refine .inr ?_;simp only[ae2];rw[dN (show¬(2:Int)=0 by decide)]
     exact⟨_,rfl⟩
   · rw[if_neg e];obtain⟨D,f1,_,_⟩:=L2 A hA R hR (by omega)
     rw[f1,ae2];by_cases Y:8000<D.length
     · rw[dY (show(8000:Int)<(D.length:Int) by omega),cond_true]
       refine .inr ?_;simp only[ae2];rw[dN (show¬(2:Int)=0 by decide)]
       exact⟨_,rfl⟩
     · rw[dN (show¬(8000:Int)<(D.length:Int) by omega),cond_false]
       refine .inl ⟨A,R,hA,hR,by omega,by omega,?_⟩
       simp only[ae2,decide_true,ae8,cond_false];rfl
 · obtain⟨x,O,U⟩:=jj F;refine .inr ?_;simp only[O,ae2,U,as4,cond_true];exact⟨_,rfl⟩
theorem K8 {V R α S:Type} {f:V->Option (V⊕R)} {v0:V} (l:List α) (g:S->α->S) (st:Nat->S->V) (out:S->R) (I:Nat->S->Prop) (D:S) (F:st 0 D=v0) (h0:I 0 D)
 (h1: ∀k (hk:k<l.length) s,I k s->f (st k s)=some (.inl (st (k+1) (g s l[k])))/\I (k+1) (g s l[k]))
 (h2: ∀s,I l.length s->f (st l.length s)=some (.inr (out s))):ab f v0=some (out (l.foldl g D)):=(wh l g I st out h1 h2 D h0 F).1
theorem wg (l:List aV) (t:aV):(eK l t).length<=l.length+1:=by unfold eK;split<;>simp
theorem Z8 (l:List aV) (t x:aV):x∈eK l t<->x∈l\/x=t:=by
 unfold eK;split
 · exact⟨.inl,fun h=>h.elim id fun e=>e▸ ‹t∈l›⟩
 · rw[as3,at5]
theorem X5 {l:List aV} {t:aV} (h:l.Nodup):(eK l t).Nodup:=by
 unfold eK;split
 · exact h
 · exact nR h ‹_›
theorem Lf (x t:aV):(decide (x.1=t.1)&&decide (x.2=t.2))=decide (x=t):=by
 by_cases e:x=t
 · subst e;simp
 · rw[decide_eq_false e,Bool.and_eq_false_iff];by_cases a:x.1=t.1
   · exact .inr (decide_eq_false fun b=>e (Prod.ext a b))
   · exact .inl (decide_eq_false a)
theorem ab3 (t:aV) (l:List aV) (F:l.length<=1000000):vX t l=some (eK l t):=by
 unfold vX eK;have c: ∀{k:Nat} {R:Type} (q:Option R),k<l.length->J (0<=((k:Nat):Int)/\((k:Nat):Int)<(l.length:Int)) q=q:=fun q _=>ai ⟨by omega,by omega⟩
 have h:=iT (f:=zh) l (fun y=>decide (y=t)) (fun k=>((k:Int),t.1,t.2,l,())) (fun _=>Sum.inr (l,())) (Sum.inl (t.1,t.2,l,())) (fun k h hp=>by
  simp only[zh,dY (show(k:Int)<(l.length:Int) by omega),cond_true,c _ h,as1,ae9 h,ae2,Lf,hp,cond_false,aH,aw (show k+1<=4611686018427387904 by omega)]) (fun k h hp=>by
  simp only[zh,dY (show(k:Int)<(l.length:Int) by omega),cond_true,c _ h,as1,ae9 h,ae2,Lf,hp]) (by
  simp only[zh,dN (show¬(l.length:Int)<(l.length:Int) by omega),cond_false])
 rw[show ab zh (0,t.1,t.2,l,())=_ from h]
 by_cases e:t∈l
 · rw[if_pos e];have:(l.findIdx? fun y=>decide (y=t)).isSome:=by rw[List.findIdx?_isSome];exact ax9.2 ⟨t,e,decide_eq_true rfl⟩
   obtain⟨k,hk⟩:=Option.isSome_iff_exists.1 this;rw[hk];rfl
 · rw[if_neg e];have:l.findIdx? (fun y=>decide (y=t))=none:=List.findIdx?_eq_none_iff.2 fun x D=>decide_eq_false fun q=>e (q▸D);rw[this];simp only[ae2];rw[ib (by omega)]
theorem ajV (l:List aV) (t:aV) (F:l.length<=1000000):IZ l t=some (decide (t∈l)):=by
 have h:=iT (f:=yq) l (fun y=>decide (y=t)) (fun k=>(l,(l.length:Int),(k:Int),t.1,t.2,())) (fun k=>Sum.inr ((k:Int),())) (Sum.inl ()) (fun k h hp=>by
  have D:(decide (t.1=(l[k]).1)&&decide (t.2=(l[k]).2))=false:=by rw[Lf];exact decide_eq_false fun e=>of_decide_eq_false hp e.symm
  simp only[yq,dY (show(k:Int)<(l.length:Int) by omega),cond_true,cond_false,au h,D,aH,aw (show k+1<=4611686018427387904 by omega)]) (fun k h hp=>by
  have D:(decide (t.1=(l[k]).1)&&decide (t.2=(l[k]).2))=true:=by rw[Lf];exact decide_eq_true (of_decide_eq_true hp).symm
  simp only[yq,dY (show(k:Int)<(l.length:Int) by omega),cond_true,au h,D]) (by
  simp only[yq,dN (show¬(l.length:Int)<(l.length:Int) by omega),cond_false])
 unfold IZ PO;rw[show ab yq (l,(l.length:Int),0,t.1,t.2,())=_ from h,ae2]
 have e:decide (t∈l)=l.any fun y=>decide (y=t):=by rw[Bool.eq_iff_iff,decide_eq_true_eq,ax9];exact⟨fun h=>⟨t,h,decide_eq_true rfl⟩,fun⟨x,h,q⟩=>of_decide_eq_true q▸h⟩
 rw[e,<-o9 l (fun y=>decide (y=t)) inferInstance];unfold bG;cases l.findIdx? (fun y=>decide (y=t))<;>rfl
def Ns (n:al):Prop:=n.2.2.length<=4/\ ∀f∈n.2.2,f≠[]
theorem FG {n:al} (h:nY 4 n):Ns n:=⟨h.2.2.1,fun f hf e=>by have:=h.2.2.2.1 f hf;rw[e] at this;exact absurd this (by decide)⟩
theorem RA (s:List UInt8): ∀(D:List (List UInt8)) (l:List aV),(jk s l D).length<=l.length+D.length
 |[],l=>ae5 _
 |f::t,l=>by have h1:=wg l (s,f);have h2:=RA s t (eK l (s,f));show(jk s (eK l (s,f)) t).length<=l.length+(t.length+1);omega
theorem akE (ns:List al) (k:Nat) (hk:k<ns.length) (F:Ns ns[k]) (l:List aV) (D:List al) (N:l.length<=900000):
  ab yE (ns,(k:Int),0,l,D,())=some (ns,(k:Int),jk (ns[k]).1 l (ns[k]).2.2,D,()):=by
 have F:=F.1;refine K8 (ns[k]).2.2 (fun l f=>eK l ((ns[k]).1,f)) (fun j l=>(ns,(k:Int),(j:Int),l,D,())) (fun l=>(ns,(k:Int),l,D,())) (fun j M=>M.length<=l.length+j) l rfl (ae5 _) (fun j J s hs=>⟨?_,?_⟩) (fun s hs=>?_)
 · simp only[yE,au hk,dY (show((j:Nat):Int)<((ns[k]).2.2.length:Int) by omega),cond_true,au J,ab3 ((ns[k]).1,(ns[k]).2.2[j]) s (by omega),ae2,aH,aw (show j+1<=4611686018427387904 by omega)]
 · have:=wg s ((ns[k]).1,(ns[k]).2.2[j]);show(eK s _).length<=_;omega
 · simp only[yE,au hk,as2,decide_false,cond_false]
theorem aab (ns:List al) (F: ∀n∈ns,Ns n) (l:List aV) (D:List al) (Y:ns.length<=1000) (U:l.length<=800000) (O:D.length<=900000):
  yK ns l D=some (eZ l ns,D++ns):=by
 unfold yK;have e:=K8 (f:=yD) (v0:=(ns,0,l,D,())) ns (fun(s:List aV×List al) n=>(jk n.1 (eK s.1 (n.1,[])) n.2.2,s.2++[n])) (fun k s=>(ns,(k:Int),s.1,s.2,())) (fun s=>(s.1,s.2,())) (fun k s=>s.1.length<=l.length+5*k/\s.2.length<=D.length+k) (l,D) rfl ⟨ae5 _,ae5 _⟩ (fun k hk s hs=>⟨?_,?_⟩) (fun s hs=>?_)
 · rw[e]
   have: ∀(ns:List al) (l:List aV) (D:List al),ns.foldl (fun(s:List aV×List al) n=>(jk n.1 (eK s.1 (n.1,[])) n.2.2,s.2++[n])) (l,D)=(eZ l ns,D++ns):=by
    intro ns
    induction ns with
    |nil=>intro l D;rw[at0];rfl
    |cons n t M=>intro l D;rw[aw6,M,at8];rfl
   rw[this];rfl
 · have hm:=wg s.1 ((ns[k]).1,[]);have h1:=hs.1;have h2:=hs.2;have c: ∀{R:Type} (q:Option R),J (s.2.length+([ns[k]]:List al).length<=1000000000) q=q:=fun q=>ib (by omega)
   simp only[yD,dY (show((k:Nat):Int)<(ns.length:Int) by omega),cond_true,au hk,c,ab3 ((ns[k]).1,[]) s.1 (by omega),ae2,akE ns k hk (F _ (ae3 hk)) _ (s.2++[ns[k]]) (show(eK s.1 ((ns[k]).1,[])).length<=900000 by omega),aH,aw (show k+1<=4611686018427387904 by omega)]
 · have hm:=wg s.1 ((ns[k]).1,[]);have hf:=RA (ns[k]).1 (ns[k]).2.2 (eK s.1 ((ns[k]).1,[]));have N:=(F _ (ae3 hk)).1;have h1:=hs.1;have h2:=hs.2;refine⟨?_,?_⟩
   · show(jk _ _ _).length<=_;omega
   · show(s.2++[ns[k]]).length<=_;rw[as0];show s.2.length+1<=_;omega
 · simp only[yD,as2,decide_false,cond_false]
def fw (l:List aV):List aV:=l.filter fun t=> !decide (t.2=[])
def fQ (l:List aV):List (aV×Bool):=l.map fun t=>(t,decide (t.2=[]))
theorem FH {l:List aV} {s:List UInt8}:s∈cX l<->(s,[])∈l:=by
 unfold cX;rw[au0];constructor
 · rintro⟨t,h,rfl⟩;obtain⟨a,b⟩:=ay8.1 h;have b:t.2=[]:=of_decide_eq_true b;rw[<-b];exact a
 · intro h;exact⟨_,ay8.2 ⟨h,decide_eq_true rfl⟩,rfl⟩
theorem Zw {l:List aV} {s f:List UInt8} (hf:f≠[]):(s,f)∈fw l<->(s,f)∈l:=by unfold fw;rw[ay8];exact⟨fun h=>h.1,fun h=>⟨h,by rw[decide_eq_false hf];rfl⟩⟩
theorem anu (l:List aV) (s:List UInt8):cX (l++[(s,[])])=cX l++[s]:=by unfold cX;rw[List.filter_append,at4];rfl
theorem anv (l:List aV) (s:List UInt8) {f:List UInt8} (hf:f≠[]):cX (l++[(s,f)])=cX l:=by unfold cX;rw[List.filter_append,List.filter_cons_of_neg (by simp [hf])];simp
theorem amA (l:List aV) (s:List UInt8):fw (l++[(s,[])])=fw l:=by unfold fw;rw[List.filter_append];simp
theorem amB (l:List aV) (s:List UInt8) {f:List UInt8} (hf:f≠[]):fw (l++[(s,f)])=fw l++[(s,f)]:=by unfold fw;rw[List.filter_append,List.filter_cons_of_pos (by simp [hf])];rfl
theorem Yq (l:List aV) (t:aV):fQ (l++[t])=fQ l++[(t,decide (t.2=[]))]:=by unfold fQ;rw[at4];rfl
theorem FI (l:List aV):(cX l).length<=l.length:=by unfold cX;rw[ae4];exact List.length_filter_le _ _
theorem aon (l:List aV):(fw l).length<=l.length:=List.length_filter_le _ _
theorem RR (l:List aV):(fQ l).length=l.length:=ae4 _
theorem Xy (M:List sq) (choice:List Int) (Y:List dC) (O U:Int) (s:List UInt8) (rv:List (List cO)) (D:List (List UInt8)) (h4:D.length<=4) (hf: ∀f∈D,f≠[]) (l:List aV) (N:List dC) (hl:l.length<=900000):
  ab CN (Y,O,U,D,(D.length:Int),0,s,rv,D,M,choice,cX l,fw l,N,fQ l,())=some (Y,O,U,M,choice,cX (jk s l D),fw (jk s l D),N,fQ (jk s l D),()):=by
 refine K8 D (fun l f=>eK l (s,f)) (fun j l=>(Y,O,U,D,(D.length:Int),(j:Int),s,rv,D,M,choice,cX l,fw l,N,fQ l,())) (fun l=>(Y,O,U,M,choice,cX l,fw l,N,fQ l,())) (fun j l'=>l'.length<=l.length+j) l rfl (ae5 _) (fun j Z q hq=>⟨?_,?_⟩) (fun q hq=>?_)
 · have F:=hf _ (ae3 Z);have hw:=aon q;have ht:=RR q;simp only[CN,dY (show((j:Nat):Int)<(D.length:Int) by omega),cond_true,au Z,ajV (fw q) (s,D[j]) (by omega),ae2]
   by_cases e:(s,D[j])∈q
   · rw[dY ((Zw F).2 e)];have hm:eK q (s,D[j])=q:=if_pos e;simp only[ae8,cond_false,aH,aw (show j+1<=4611686018427387904 by omega),hm]
   · rw[dN (fun h=>e ((Zw F).1 h))];have hm:eK q (s,D[j])=q++[(s,D[j])]:=if_neg e;have c1: ∀{R:Type} (r:Option R),J ((fw q).length+([(s,D[j])]:List aV).length<=1000000000) r=r:=fun r=>ib (by omega)
     have c2: ∀{R:Type} (r:Option R),J ((fQ q).length+([((s,D[j]),false)]:List (aV×Bool)).length<=1000000000) r=r:=fun r=>ib (by omega)
     simp only[as4,cond_true,c1,c2,aH,aw (show j+1<=4611686018427387904 by omega),hm,anv q s F,amB q s F,Yq,dN F]
 · have:=wg q (s,D[j]);show(eK q _).length<=_;omega
 · simp only[CN,as2,decide_false,cond_false]
theorem aaa (F:List sq) (choice:List Int) (ns:List al) (O: ∀n∈ns,Ns n) (l:List aV) (D:List al) (hn:ns.length<=1000) (hl:l.length<=800000) (hd:D.length<=900000):
  vz (ns.map aO) F choice (cX l) (fw l) (D.map aO) (fQ l)=some (F,choice,cX (eZ l ns),fw (eZ l ns),(D++ns).map aO,fQ (eZ l ns)):=by
 unfold vz;have e:=K8 (f:=IP) (v0:=(ns.map aO,(ns.length:Int),0,F,choice,cX l,fw l,D.map aO,fQ l,())) ns (fun(s:List aV×List al) n=>(jk n.1 (eK s.1 (n.1,[])) n.2.2,s.2++[n])) (fun k s=>(ns.map aO,(ns.length:Int),(k:Int),F,choice,cX s.1,fw s.1,s.2.map aO,fQ s.1,())) (fun s=>(F,choice,cX s.1,fw s.1,s.2.map aO,fQ s.1,())) (fun k s=>s.1.length<=l.length+5*k/\s.2.length<=D.length+k) (l,D) rfl ⟨ae5 _,ae5 _⟩ (fun k hk s hs=>⟨?_,?_⟩) (fun s hs=>?_)
 · rw[show((ns.map aO).length:Int)=(ns.length:Int) by rw[ae4],e]
   have: ∀(ns:List al) (l:List aV) (D:List al),ns.foldl (fun(s:List aV×List al) n=>(jk n.1 (eK s.1 (n.1,[])) n.2.2,s.2++[n])) (l,D)=(eZ l ns,D++ns):=by
    intro ns
    induction ns with
    |nil=>intro l D;rw[at0];rfl
    |cons n t ih=>intro l D;rw[aw6,ih,at8];rfl
   rw[this];rfl
 · have hm:=wg s.1 ((ns[k]).1,[]);have h1:=hs.1;have h2:=hs.2;have hN:=FI s.1;have hT:=RR s.1;have M:=O _ (ae3 hk);have c: ∀{R:Type} (q:Option R),J ((s.2.map aO).length+([aO ns[k]]:List dC).length<=1000000000) q=q:=fun q=>ib (by rw[ae4];omega)
   have a1:(aO ns[k]).1=(ns[k]).1:=rfl;have a2:(aO ns[k]).2.1=dU (ns[k]).2.1:=rfl;have a3:(aO ns[k]).2.2=(ns[k]).2.2:=rfl;have ah:s.2.map aO++[aO ns[k]]=(s.2++[ns[k]]).map aO:=by rw[at4];rfl
   have Y:=aH k;have U: ∀{R:Type} (q:Option R),J (aa .i64 ((k+1:Nat):Int)) q=q:=fun q=>aw (show k+1<=4611686018427387904 by omega)
   simp only[IP,dY (show((k:Nat):Int)<(ns.length:Int) by omega),cond_true,wT hk,c,a1,a2,a3,zo (cX s.1) (ns[k]).1 (by omega),ae2]
   by_cases e:((ns[k]).1,[])∈s.1
   · rw[(qD _ _).2 (FH.2 e)];have N:eK s.1 ((ns[k]).1,[])=s.1:=if_pos e;rw[N];simp only[ae8,cond_false,Xy F choice _ _ _ _ _ _ M.1 M.2 s.1 _ (by omega),ae2,Y,U,ah]
   · rw[show cw (cX s.1) (ns[k]).1=false from by rw[az6];exact fun h=>e (FH.1 ((qD _ _).1 h))]
     have N:eK s.1 ((ns[k]).1,[])=s.1++[((ns[k]).1,[])]:=if_neg e;rw[N] at hm⊢;have c1: ∀{R:Type} (r:Option R),J ((cX s.1).length+([(ns[k]).1]:List (List UInt8)).length<=1000000000) r=r:=fun r=>ib (by omega)
     have c2: ∀{R:Type} (r:Option R),J ((fQ s.1).length+([(((ns[k]).1,[]),true)]:List (aV×Bool)).length<=1000000000) r=r:=fun r=>ib (by omega)
     have Z:=Xy F choice (ns.map aO) (ns.length:Int) (k:Int) (ns[k]).1 (dU (ns[k]).2.1) (ns[k]).2.2 M.1 M.2 (s.1++[((ns[k]).1,[])]) ((s.2++[ns[k]]).map aO) (by omega)
     rw[anu,amA,Yq,dY (show(((ns[k]).1,[]):aV).2=[] from rfl)] at Z
     simp only[as4,cond_true,c1,c2,ah,Z,ae2,Y,U]
 · have hm:=wg s.1 ((ns[k]).1,[]);have hf:=RA (ns[k]).1 (ns[k]).2.2 (eK s.1 ((ns[k]).1,[]));have h3:=(O _ (ae3 hk)).1;have h1:=hs.1;have h2:=hs.2;refine⟨?_,?_⟩
   · show(jk _ _ _).length<=_;omega
   · show(s.2++[ns[k]]).length<=_;rw[as0];show s.2.length+1<=_;omega
 · simp only[IP,as2,decide_false,cond_false]
theorem Az {A:List aq} {s:List UInt8} {i:Int}:ta A s i=true<-> ∃k,∃h:k<A.length,i=(k:Int)/\(A[k]).1.1=s:=by
 unfold ta;rw[ae7,decide_eq_true_eq];constructor
 · rintro⟨a,b⟩;obtain⟨k,rfl⟩: ∃k:Nat,i=(k:Int):=⟨i.toNat,by omega⟩
   rw[as1] at b;by_cases h:k<A.length
   · rw[ae9 h] at b;exact⟨k,h,rfl,of_decide_eq_true b⟩
   · rw[ay2 (by omega)] at b;cases b
 · rintro⟨k,h,rfl,e⟩;rw[as1,ae9 h];exact⟨by omega,decide_eq_true e⟩
theorem nP (A:List aq) (choice:List Int) (s:List UInt8):(choice.find? (ta A s)=none/\ei A choice s= -1)\/ ∃k,∃h:k<A.length,ei A choice s=(k:Int)/\(A[k]).1.1=s/\(k:Int)∈choice:=by
 unfold ei;cases h:choice.find? (ta A s) with
 |none=>exact .inl ⟨rfl,rfl⟩
 |some i=>obtain⟨k,hk,rfl,e⟩:=Az.1 (List.find?_some h);exact .inr ⟨k,hk,rfl,e,List.mem_of_find?_eq_some h⟩
theorem tD (A:List aq) (choice:List Int) (s:List UInt8) (hc:choice.length<=1000000):qj A choice s=some (ei A choice s):=by
 unfold qj ei;have h:=tI (f:=yZ) choice (ta A s) (fun k=>(A,choice,s,(k:Int),())) (fun i=>.inr (i,())) (.inl ()) (fun k hk hp=>?_) (fun k hk hp=>?_) ?_
 · rw[show ab yZ (A,choice,s,0,())=_ from h]
   cases choice.find? (ta A s)<;>rfl
 · simp only[yZ,dY (show(k:Int)<(choice.length:Int) by omega),cond_true,au hk,aH,aw (show k+1<=4611686018427387904 by omega)]
   by_cases a:0<=choice[k]
   · by_cases b:choice[k]<(A.length:Int)
     · obtain⟨j,D⟩: ∃j:Nat,choice[k]=(j:Int):=⟨(choice[k]).toNat,by omega⟩
       have F:j<A.length:=by omega
       have e: ¬(A[j]).1.1=s:=fun e=>by rw[D,Az.2 ⟨j,F,rfl,e⟩] at hp;cases hp
       simp only[D,dY (show(0:Int)<=(j:Int) by omega),dY (show(j:Int)<(A.length:Int) by omega),cond_true,au F,dN e,cond_false]
     · simp only[dY a,dN b,cond_true,cond_false]
   · simp only[dN a,cond_false]
 · obtain⟨j,D,e,J⟩:=Az.1 hp;simp only[yZ,dY (show(k:Int)<(choice.length:Int) by omega),cond_true,au hk,e,dY (show(0:Int)<=(j:Int) by omega),dY (show(j:Int)<(A.length:Int) by omega),au D,dY J]
 · simp only[yZ,as2,decide_false,cond_false]
theorem amm (A:List aq) (choice:List Int) (s:List UInt8) (hc:choice.length<=1000000):Ko (A.map bN) choice s=some (ei A choice s):=by
 unfold Ko ei;have J: ∀{j:Nat} (h:j<A.length),(bN A[j]).1.1=(A[j]).1.1:=fun _=>rfl;have h:=tI (f:=yR) choice (ta A s) (fun k=>(A.map bN,s,choice,(choice.length:Int),(k:Int),())) (fun i=>.inr (i,())) (.inl ()) (fun k hk hp=>?_) (fun k hk hp=>?_) ?_
 · rw[show ab yR (A.map bN,s,choice,(choice.length:Int),0,())=_ from h]
   cases choice.find? (ta A s)<;>rfl
 · simp only[yR,dY (show(k:Int)<(choice.length:Int) by omega),cond_true,au hk,aH,aw (show k+1<=4611686018427387904 by omega),ae4]
   by_cases a:0<=choice[k]
   · by_cases b:choice[k]<(A.length:Int)
     · obtain⟨j,D⟩: ∃j:Nat,choice[k]=(j:Int):=⟨(choice[k]).toNat,by omega⟩
       have F:j<A.length:=by omega
       have e: ¬(A[j]).1.1=s:=fun e=>by rw[D,Az.2 ⟨j,F,rfl,e⟩] at hp;cases hp
       simp only[D,dY (show(0:Int)<=(j:Int) by omega),dY (show(j:Int)<(A.length:Int) by omega),cond_true,kC F,J F,dN e,cond_false]
     · simp only[dY a,dN b,cond_true,cond_false]
   · simp only[dN a,cond_false]
 · obtain⟨j,D,e,M⟩:=Az.1 hp;simp only[yR,dY (show(k:Int)<(choice.length:Int) by omega),cond_true,au hk,e,dY (show(0:Int)<=(j:Int) by omega),dY (show(j:Int)<(A.length:Int) by omega),kC D,J D,dY M,ae4]
 · simp only[yR,as2,decide_false,cond_false]
theorem alV {e:bO} (h:dD e) (f:List UInt8):(mL e f).length<=8/\ ∀n∈mL e f,nY 4 n:=by
 unfold mL;split
 · exact⟨h.wJ,h.dO⟩
 · cases hf:eP e f with
   |none=>exact⟨ae6 _,fun n D=>(av6 D).elim⟩
   |some k=>have:=h.lX _ (ES hf);exact⟨this.2.1,this.2.2⟩
theorem Sp {A:List aq} (hA:bu A) (choice:List Int) (t:aV):(eQ A choice t).length<=8/\ ∀n∈eQ A choice t,nY 4 n:=by
 unfold eQ;split
 · rename_i y F;split
   · exact⟨ae6 _,fun n D=>(av6 D).elim⟩
   · exact alV (hA.cV _ (List.mem_of_getElem? F)) _
 · exact⟨ae6 _,fun n D=>(av6 D).elim⟩
theorem aar {A:List aq} {choice:List Int} {t:aV} (h:ei A choice t.1= -1):eQ A choice t=[]:=by unfold eQ;rw[h];split<;>rfl
theorem LB {A:List aq} {choice:List Int} {t:aV} {k:Nat} (hk:k<A.length) (h:ei A choice t.1=(k:Int)):eQ A choice t=mL (A[k]).1 t.2:=by unfold eQ;rw[h,as1,ae9 hk];exact if_neg (by omega)
theorem Qk (e:bO):mL e []=e.2.2.2.2.2.2.1:=if_pos rfl
theorem X4 {e:bO} {f:List UInt8} (hf:f≠[]) (h:bG e.2.2.2.2.2.2.2 (fun x=>decide (x.1=f))= -1):mL e f=[]:=by unfold mL eP;rw[if_neg hf,h,if_pos (by decide)];rfl
theorem Xv {e:bO} {f:List UInt8} (hf:f≠[]) {k:Nat} (hk:k<e.2.2.2.2.2.2.2.length) (h:bG e.2.2.2.2.2.2.2 (fun x=>decide (x.1=f))=(k:Int)):mL e f=((e.2.2.2.2.2.2.2)[k]).2:=by unfold mL eP;rw[if_neg hf,h,if_neg (by omega),as1,ae9 hk];rfl
theorem apq (A:List aq) (hA:bu A) (choice:List Int) (hc:choice.length<=1000000) (t:aV):LR A choice t=some (eQ A choice t):=by
 unfold LR;rw[tD A choice t.1 hc,ae2];rcases nP A choice t.1 with⟨_,h⟩ |⟨k,hk,h,_,_⟩
 · rw[aar h,h];rfl
 · have he:=hA.cV _ (ae3 hk);have F:=he.iW;rw[LB hk h,h,dN (show¬(k:Int)<0 by omega),cond_false]
   by_cases e:t.2=[]
   · rw[dY e,cond_true,au hk,e,Qk]
   · rw[dN e,cond_false,au hk,Sv _ _ (by omega),ae2]
     rcases kX (A[k]).1.2.2.2.2.2.2.2 (fun x=>decide (x.1=t.2)) with⟨_,g⟩ |⟨j,D,g,g2,_⟩
     · rw[X4 e g,g];rfl
     · rw[Xv e D g2,g2,dN (show¬(j:Int)<0 by omega),cond_false,au hk,au D]
theorem aoY (A:List aq) (hA:bu A) (choice:List Int) (hc:choice.length<=1000000) (t:aV) (l:List aV) (F:List al) (O:l.length<=800000) (M:F.length<=900000):
  I4 (t,decide (t.2=[])) (A.map bN) choice (cX l) (fw l) (F.map aO) (fQ l)=some (A.map bN,choice,cX (eZ l (eQ A choice t)),fw (eZ l (eQ A choice t)),(F++eQ A choice t).map aO,fQ (eZ l (eQ A choice t))):=by
 unfold I4;have Y:=Sp hA choice t;have D:=aaa (A.map bN) choice (eQ A choice t) (fun n U=>FG (Y.2 n U)) l F (by omega) O M
 simp only[amm A choice t.1 hc,ae2];rcases nP A choice t.1 with⟨_,h⟩ |⟨k,hk,h,_,_⟩
 · rw[aar h,h,at0];rfl
 · have he:=hA.cV _ (ae3 hk);have Z:=he.iW;rw[LB hk h] at D⊢;rw[h,dN (show¬(k:Int)<0 by omega),cond_false]
   by_cases e:t.2=[]
   · rw[dY e,cond_true,kC hk,show(bN A[k]).1.2.2.2.2.2.2.1=(A[k]).1.2.2.2.2.2.2.1.map aO from rfl]
     rw[e,Qk] at D⊢;rw[D];rfl
   · have N:qb (bN A[k]).1 t.2=some (bG (A[k]).1.2.2.2.2.2.2.2 (fun f=>decide (f.1=t.2))):=by
       rw[My _ _ (by show((A[k]).1.2.2.2.2.2.2.2.map ee).length<=1000;rw[ae4];omega)]
       show some (bG ((A[k]).1.2.2.2.2.2.2.2.map ee) _)=_;rw[Sm];rfl
     rw[dN e,cond_false,kC hk,N,ae2];rcases kX (A[k]).1.2.2.2.2.2.2.2 (fun x=>decide (x.1=t.2)) with⟨_,g⟩ |⟨j,J,g,g2,_⟩
     · rw[X4 e g,g,at0];rfl
     · rw[Xv e J g2] at D⊢;rw[g2,dY (show(0:Int)<=(j:Int) by omega),cond_true,kC hk,show(bN A[k]).1.2.2.2.2.2.2.2=(A[k]).1.2.2.2.2.2.2.2.map ee from rfl,au (l:=(A[k]).1.2.2.2.2.2.2.2.map ee) (by rw[ae4];exact J),au5,show(ee (A[k]).1.2.2.2.2.2.2.2[j]).2=((A[k]).1.2.2.2.2.2.2.2[j]).2.map aO from rfl,D];rfl
theorem Y9 (s:List UInt8) (x:aV): ∀(D:List (List UInt8)) (l:List aV),x∈jk s l D<->x∈l\/ ∃f∈D,x=(s,f)
 |[],l=>⟨.inl,fun h=>h.elim id fun⟨_,h,_⟩=>(av6 h).elim⟩
 |f::t,l=>by
  show x∈jk s (eK l (s,f)) t<->_;rw[Y9 s x t,Z8];constructor
  · rintro((h |h) |⟨g,h,e⟩)
    · exact .inl h
    · exact .inr ⟨f,.head _,h⟩
    · exact .inr ⟨g,.tail _ h,e⟩
  · rintro(h |⟨g,h,e⟩)
    · exact .inl (.inl h)
    · rcases at3.1 h with q |q
      · exact .inl (.inr (q▸e))
      · exact .inr ⟨g,q,e⟩
theorem qq (x:aV): ∀(ns:List al) (l:List aV),x∈eZ l ns<->x∈l\/ ∃n∈ns,Ck x n
 |[],l=>⟨.inl,fun h=>h.elim id fun⟨_,h,_⟩=>(av6 h).elim⟩
 |n::t,l=>by
  show x∈eZ (jk n.1 (eK l (n.1,[])) n.2.2) t<->_;rw[qq x t,Y9,Z8];constructor
  · rintro(((h |h) |⟨g,h,e⟩) |⟨g,h,e⟩)
    · exact .inl h
    · exact .inr ⟨n,.head _,by rw[h];exact⟨rfl,.inl rfl⟩⟩
    · exact .inr ⟨n,.head _,by rw[e];exact⟨rfl,.inr h⟩⟩
    · exact .inr ⟨g,.tail _ h,e⟩
  · rintro(h |⟨g,h,e⟩)
    · exact .inl (.inl (.inl h))
    · rcases at3.1 h with q |q
      · subst q;rcases e with⟨F,D |D⟩
        · exact .inl (.inl (.inr (Prod.ext F D)))
        · exact .inl (.inr ⟨x.2,D,Prod.ext F rfl⟩)
      · exact .inr ⟨g,q,e⟩
theorem XF (s:List UInt8): ∀(D:List (List UInt8)) (l:List aV),l.Nodup->(jk s l D).Nodup
 |[],l,h=>h
 |f::t,l,h=>XF s t _ (X5 h)
theorem QG: ∀(ns:List al) (l:List aV),l.Nodup->(eZ l ns).Nodup
 |[],l,h=>h
 |n::t,l,h=>QG t _ (XF _ _ _ (X5 h))
theorem Z7 (l:List aV) (x:aV):l<+:eK l x:=by
 unfold eK;split
 · exact List.prefix_refl _
 · exact List.prefix_append _ _
theorem Y8 (s:List UInt8): ∀(D:List (List UInt8)) (l:List aV),l<+:jk s l D
 |[],l=>List.prefix_refl _
 |f::t,l=>(Z7 l (s,f)).trans (Y8 s t _)
theorem Rs: ∀(ns:List al) (l:List aV),l<+:eZ l ns
 |[],l=>List.prefix_refl _
 |n::t,l=>((Z7 l _).trans (Y8 n.1 n.2.2 _)).trans (Rs t _)
theorem aqk {α:Type} {l F:List α} (h:l<+:F) {j:Nat} (D:j<l.length):F[j]? =some l[j]:=by obtain⟨t,rfl⟩:=h;rw[List.getElem?_append_left D,ae9 D]
variable {A:List aq} {R:List al} {choice:List Int} {at_:Nat} {s:List aV×List al}
theorem lq.first (hR:bM R):lq A R choice 0 (eZ [] R,R) where
 once:=QG R [] List.nodup_nil
 named:=fun x F=>((qq x R []).1 F).elim (fun h=>(av6 h).elim) id
 back:=fun n D x F=>(qq x R []).2 (.inr ⟨n,D,F⟩)
 roots:=fun n D=>D
 src:=fun n D=>.inl D
 done:=fun j x h=>absurd h (az4 j)
 ind:=fun P h1 h2 x F=>((qq x R []).1 F).elim (fun h=>(av6 h).elim) (fun⟨n,D,e⟩=>h1 n D x e)
 Cn:=hR.many
 place:=ae6 _
theorem lq.next (hA:bu A) (h:lq A R choice at_ s) (J:at_<s.1.length):lq A R choice (at_+1) (eZ s.1 (eQ A choice s.1[at_]),s.2++eQ A choice s.1[at_]) where
 once:=QG _ _ h.once
 named:=fun x F=>by
  rcases(qq x _ _).1 F with q |⟨n,D,e⟩
  · obtain⟨n,D,e⟩:=h.named x q;exact⟨n,as3.2 (.inl D),e⟩
  · exact⟨n,as3.2 (.inr D),e⟩
 back:=fun n D x F=>by
  rcases as3.1 D with q |q
  · exact(qq x _ _).2 (.inl (h.back n q x F))
  · exact(qq x _ _).2 (.inr ⟨n,q,F⟩)
 roots:=fun n D=>as3.2 (.inl (h.roots n D))
 src:=fun n D=>by
  rcases as3.1 D with q |q
  · rcases h.src n q with a |⟨t,M,a⟩
    · exact .inl a
    · exact .inr ⟨t,(qq t _ _).2 (.inl M),a⟩
  · exact .inr ⟨_,(qq _ _ _).2 (.inl (ae3 J)),q⟩
 done:=fun j x N F n D=>by
  have hp:=aqk (Rs (eQ A choice s.1[at_]) s.1) (j:=j) (by omega)
  have F:(eZ s.1 (eQ A choice s.1[at_]))[j]? =some x:=F;rw[hp] at F;have F:=Option.some.inj F;by_cases e:j=at_
  · subst e;rw[F];exact as3.2 (.inr D)
  · exact as3.2 (.inl (h.done j x (by omega) (by rw[<-F];exact ae9 (by omega)) n D))
 ind:=fun P h1 h2 x F=>by
  have h0:=h.ind P h1 h2;rcases(qq x _ _).1 F with q |⟨n,D,e⟩
  · exact h0 x q
  · exact h2 _ (h0 _ (ae3 J)) n D x e
 Cn:=by have h1:=h.Cn;have h2:=(Sp hA choice s.1[at_]).1;show(s.2++_).length<=_;rw[as0];omega
 place:=by have:s.1.length<=(eZ s.1 (eQ A choice s.1[at_])).length:=(Rs _ _).length_le;show at_+1<=(eZ s.1 (eQ A choice s.1[at_])).length;omega
theorem QM (hA:bu A) (hR:bM R) (hc:choice.length<=1000000): ∀m at_ (s:List aV×List al),at_+m=80000->lq A R choice at_ s->
  ab D' (A,choice,(at_:Int),s.2,s.1,())=some ((k8 A choice m at_ s).2,(k8 A choice m at_ s).1,())/\
  ab DH ((at_:Int),A.map bN,cX s.1,fw s.1,s.2.map aO,fQ s.1,choice,())=some (A.map bN,cX (k8 A choice m at_ s).1,fw (k8 A choice m at_ s).1,(k8 A choice m at_ s).2.map aO,fQ (k8 A choice m at_ s).1,choice,())/\
  lq A R choice (k8 A choice m at_ s).1.length (k8 A choice m at_ s):=by
 intro m
 induction m with
 |zero=>intro at_ s hm h;have:=h.len hA hR;have:=h.place;omega
 |succ m U=>
  intro at_ s hm h;have hlen:=h.len hA hR;have Z:=h.place;have Y:=h.Cn;have O:=RR s.1;by_cases D:at_<s.1.length
  · have e:k8 A choice (m+1) at_ s=k8 A choice m (at_+1) (eZ s.1 (eQ A choice s.1[at_]),s.2++eQ A choice s.1[at_]):=by
      rw[k8,ae9 D]
    rw[e];obtain⟨i1,i2,i3⟩:=U (at_+1) _ (by omega) (h.next hA D)
    have N:=Sp hA choice s.1[at_];have c1: ∀{R:Type} (q:Option R),J (0<=((at_:Nat):Int)/\((at_:Nat):Int)<(s.1.length:Int)) q=q:=fun q=>ai ⟨by omega,by omega⟩
    have c2: ∀{R:Type} (q:Option R),J (0<=((at_:Nat):Int)/\((at_:Nat):Int)<((fQ s.1).length:Int)) q=q:=fun q=>ai ⟨by omega,by omega⟩
    refine⟨?_,?_,i3⟩
    · rw[<-i1];refine aZ ?_;simp only[D',dY (show(at_:Int)<(s.1.length:Int) by omega),cond_true,c1,as1,ae9 D,ae2,apq A hA choice hc,aab (eQ A choice s.1[at_]) (fun n M=>FG (N.2 n M)) s.1 s.2 (by omega) (by omega) (by omega),aH,aw (show at_+1<=4611686018427387904 by omega)]
    · rw[<-i2];refine aZ ?_;have F:(fQ s.1)[at_]? =some (s.1[at_],decide ((s.1[at_]).2=[])):=by unfold fQ;rw[List.getElem?_map,ae9 D];rfl
      simp only[DH,dY (show(at_:Int)<((fQ s.1).length:Int) by omega),cond_true,c2,as1,F,ae2,aoY A hA choice hc s.1[at_] s.1 s.2 (by omega) (by omega),aH,aw (show at_+1<=4611686018427387904 by omega)]
  · have e:k8 A choice (m+1) at_ s=s:=by rw[k8,ay2 (by omega)]
    have:at_=s.1.length:=by omega
    subst this;rw[e];refine⟨bk ?_,bk ?_,h⟩
    · simp only[D',as2,decide_false,cond_false]
    · simp only[DH,O,as2,decide_false,cond_false]
theorem aqv (a b c d e):ab yE (a,b,c,e,d,())=(ab PE (a,b,c,d,e,())).map fun r:List al×Int×List al×List aV×Unit=>(r.1,r.2.1,r.2.2.2.1,r.2.2.1,()):=
 o5 (φ:=fun v:List al×Int×Int×List al×List aV×Unit=>(v.1,v.2.1,v.2.2.1,v.2.2.2.2.1,v.2.2.2.1,())) (ψ:=fun r:List al×Int×List al×List aV×Unit=>(r.1,r.2.1,r.2.2.2.1,r.2.2.1,())) (fun v=>by simp only[yE,PE,o0,o8,nU,av9,Sum.map_inl,Sum.map_inr,tU]) (a,b,c,d,e,())
theorem aqu (a b d e):ab yD (a,b,e,d,())=(ab PD (a,b,d,e,())).map fun r:List al×List aV×Unit=>(r.2.1,r.1,()):=
 o5 (φ:=fun v:List al×Int×List al×List aV×Unit=>(v.1,v.2.1,v.2.2.2.1,v.2.2.1,())) (ψ:=fun r:List al×List aV×Unit=>(r.2.1,r.1,())) (fun v=>by simp only[yD,PD,o0,o8,nU,av9,Sum.map_inl,Sum.map_inr,tU,aqv]) (a,b,d,e,())
theorem ao4 (R:List al):yK R [] []=(Jk R).map fun r=>(r.2,r.1):=by unfold yK Jk;rw[aqu,tU,nU];rfl
theorem E3 (hA:bu A) (hR:bM R) (hc:choice.length<=1000000):tF A R choice=some (bS A R choice):=by
 have h:=(QM hA hR hc 80000 0 (eZ [] R,R) rfl (lq.first hR)).1;have hm:=hR.many;have h2:=aab R (fun n J=>FG (hR.dO n J)) [] [] (by omega) (ae6 _) (ae6 _)
 rw[ao4,Option.map_eq_some_iff] at h2;obtain⟨r,F,D⟩:=h2;have e:r=(R,eZ [] R):=Prod.ext (congrArg (·.2) D) (congrArg (·.1) D)
 unfold tF;rw[F,e,ae2];rw[show ab D' (A,choice,0,R,eZ [] R,())=_ from h];rfl
theorem am5 (hA:bu A) (hR:bM R) (hc:choice.length<=1000000):Kn (A.map bN) (R.map aO) choice=some (choice,A.map bN,fQ (bS A R choice).1,(bS A R choice).2.map aO,fw (bS A R choice).1,cX (bS A R choice).1):=by
 have h:=(QM hA hR hc 80000 0 (eZ [] R,R) rfl (lq.first hR)).2.1;have hm:=hR.many;have e:=aaa (A.map bN) choice R (fun n D=>FG (hR.dO n D)) [] [] (by omega) (ae6 _) (ae6 _)
 have e:vz (R.map aO) (A.map bN) choice [] [] [] []=_:=e;unfold Kn;rw[e,ae2];simp only[List.nil_append];rw[show ab DH (0,A.map bN,cX (eZ [] R),fw (eZ [] R),R.map aO,fQ (eZ [] R),choice,())=_ from h];rfl
theorem qi (hA:bu A) (hR:bM R) (hc:choice.length<=1000000):lq A R choice (bS A R choice).1.length (bS A R choice):=(QM hA hR hc 80000 0 (eZ [] R,R) rfl (lq.first hR)).2.2
theorem true_eq (k:Nat) (v:List Bool) (hk:k<=1000000):wk ((k+1:Nat):Int) v=some (v.getD k false):=by
 have D:AE ((k+1:Nat):Int)=some ((k+1:Nat):Int):=by unfold AE;rw[ai (bd (by omega)),if_neg (by omega)]
 unfold wk;rw[D,ae2,dY (show(1:Int)<=((k+1:Nat):Int) by omega),cond_true,dY (show(0:Int)<((k+1:Nat):Int) by omega)]
 by_cases h:k<v.length
 · rw[dY (show((k+1:Nat):Int)<=(v.length:Int) by omega),cond_true,show((k+1:Nat):Int) - 1=(k:Int) by omega,aw (show k<=4611686018427387904 by omega),au h]
   rw[aw8,ae9 h];simp
 · rw[dN (show¬((k+1:Nat):Int)<=(v.length:Int) by omega),cond_false,aw8,ay2 (by omega)];rfl
def eR (A:List aq) (v:List Bool):List Int:=aN (fun i (_:aq)=>if v.getD i false=true then[(i:Int)] else[]) A 0
theorem SL (A:List aq) (v:List Bool):(eR A v).length<=A.length:=by
 have:=iU (e:=fun i (_:aq)=>if v.getD i false=true then[(i:Int)] else[]) (m:=1) A 0 (fun j h=>rR _ _)
 unfold eR;omega
theorem SK {A:List aq} {v:List Bool} {i:Int}:i∈eR A v<-> ∃k,k<A.length/\i=(k:Int)/\v.getD k false=true:=by
 unfold eR;rw[dG];constructor
 · rintro⟨k,hk,h⟩;split at h
   · exact⟨k,hk,at5.1 h,‹_›⟩
   · cases h
 · rintro⟨k,hk,rfl,h⟩;exact⟨k,hk,by rw[if_pos h];exact .head _⟩
variable {A:List aq} {R:List al} {choice:List Int}
theorem aog (hA:bu A) (v:List Bool):ab CW (v,((bn A R).1.length:Int),0,bn A R,[],())=some (bn A R,eR A v,()):=by
 have hs:=hA.many;have M:(bn A R).1.length=A.length:=by rw[nV,ae4]
 have:=eX (f:=CW) A (fun i (_:aq)=>if v.getD i false=true then[(i:Int)] else[]) 1 0 (fun k acc=>(v,(A.length:Int),(k:Int),bn A R,acc,())) (fun acc=>(bn A R,acc,())) (fun k h=>rR _ _) (fun k hk acc N=>?_) (fun acc=>?_) [] (ae6 _) rfl
 · rw[M];exact this
 · have D:=aH k;have F: ∀{R:Type} (q:Option R),J (aa .i64 ((k+1:Nat):Int)) q=q:=fun q=>aw (show k+1<=4611686018427387904 by omega)
   simp only[CW,dY (show((k:Nat):Int)<(A.length:Int) by omega),cond_true,D,F,true_eq k v (by omega),ae2]
   rcases av8 (v.getD k false) with e |e
   · rw[e,if_pos rfl,cond_true,ib (by omega)]
   · rw[e,if_neg (by decide),cond_false,at0]
 · simp only[CW,as2,decide_false,cond_false]
theorem aaM: ∀(l:List aV) (k:Nat),aN (fun _ (t:aV)=>if decide (t.2=[])=true then[t.1] else[]) l k=cX l
 |[],_=>rfl
 |t::l,k=>by
  show(if decide (t.2=[])=true then[t.1] else[])++aN _ l (k+1)=_
  rw[aaM l (k+1)];unfold cX;rw[List.filter_cons];split<;>rfl
theorem Se (s:List aV×List al) (hs:s.1.length<=100000):yN s=some (cX s.1):=by
 unfold yN;have:=eX (f:=Dq) s.1 (fun _ (t:aV)=>if decide (t.2=[])=true then[t.1] else[]) 1 0 (fun k acc=>((k:Int),s.1,s.2,acc,())) (fun acc=>(acc,())) (fun k h=>rR _ _) (fun k hk acc M=>?_) (fun acc=>?_) [] (ae6 _) rfl
 · rw[show ab Dq (0,s.1,s.2,[],())=_ from this,aaM];rfl
 · have D:=aH k;have F: ∀{R:Type} (q:Option R),J (aa .i64 ((k+1:Nat):Int)) q=q:=fun q=>aw (show k+1<=4611686018427387904 by omega)
   simp only[Dq,dY (show((k:Nat):Int)<(s.1.length:Int) by omega),cond_true,au hk,D,F]
   rcases av8 (decide ((s.1[k]).2=[])) with e |e
   · rw[e,if_pos rfl,cond_true,ib (by omega)]
   · rw[e,if_neg (by decide),cond_false,at0]
 · simp only[Dq,as2,decide_false,cond_false]
def Bk (A:List aq) (l:List (List UInt8)) (i:Int):Bool:=match A[i.toNat]? with|some y=>cw l y.1.1 |none=>false
theorem Tg {l:List (List UInt8)} {k:Nat} (hk:k<A.length):Bk A l (k:Int)=cw l (A[k]).1.1:=by unfold Bk;rw[as1,ae9 hk]
def tT (A:List aq) (R:List al) (v:List Bool):List Int:=(eR A v).filter (Bk A (cX (bS A R (eR A v)).1))
theorem arP {d:List (List UInt8)} {d1:pt} {l:List Int} (U:l.length<1000000000) (g:Int->Bool) (M: ∀i∈l,CO i d d1=some (g i)):Iq d d1 l=some (l.filter fun x=> !g x):=by
 unfold Iq O9
 have H:=abm (f:=Im) l g (fun j=>(l,d,d1,(l.length:Int),j,())) (fun j D=>by
  have F: ∀{R:Type} (q:Option R),J (aa .i64 ((j:Int)+1)) q=q:=fun q=>aw (n:=j+1) (by omega)
  have O:=M _ (ae3 D);simp only[Im,dY (show((j:Nat):Int)<(l.length:Int) by omega),cond_true,au D,ae2,O,F]
  rcases av8 (g l[j]) with e |e
  · rw[e,if_pos rfl];rfl
  · rw[e,if_neg (by decide)];rfl) (by simp only[Im,as2,decide_false,cond_false])
 rcases H with⟨e,h⟩ |⟨k,hk,e,h1,h2⟩
 · rw[e,h];rfl
 · rw[e];simp only[ae2,dN (show¬((k:Int)= -1) by omega),cond_false]
   refine abz (f:=Il) l U g (fun i j o=>(d,d1,i,j,o,())) (fun i j o hi D Y Z=>?_) (fun i o Y=>?_) k hk h1 h2
   · have c1: ∀{R:Type} (q:Option R),J (0<=((j:Nat):Int)/\((j:Nat):Int)<(o.length:Int)) q=q:=fun q=>ai ⟨by omega,by omega⟩
     have c2: ∀{R:Type} (q:Option R),J (0<=((i:Nat):Int)/\((i:Nat):Int)<(o.length:Int)) q=q:=fun q=>ai ⟨by omega,by omega⟩
     have N: ∀{R:Type} (q:Option R),J (aa .i64 ((i:Int)+1)) q=q:=fun q=>aw (n:=i+1) (by omega)
     have F: ∀{R:Type} (q:Option R),J (aa .i64 ((j:Int)+1)) q=q:=fun q=>aw (n:=j+1) (by omega)
     have g1:o[i]? =some (o[i]'(by omega)):=ae9 (by omega)
     simp only[Il,dY (show((j:Nat):Int)<(o.length:Int) by omega),cond_true,c1,as1,Z,ae2,M _ (ae3 D),c2,g1,N,F]
     rcases av8 (g l[j]) with e |e
     · rw[e,if_pos rfl];rfl
     · rw[e,if_neg (by decide)];rfl
   · simp only[Il,dN (show¬(l.length:Int)<(o.length:Int) by omega),cond_false]
theorem Yh (hA:bu A) (hR:bM R) (v:List Bool):Dd (bn A R) v=some (tT A R v):=by
 have hs:=hA.many;have J:=SL A v;have N:=(qi (choice:=eR A v) hA hR (by omega)).len hA hR
 have M:=FI (bS A R (eR A v)).1;have F:KL (bn A R).1 (bn A R).2.1 (eR A v)=some ((cX (bS A R (eR A v)).1,fw (bS A R (eR A v)).1),eR A v):=by unfold KL;rw[nV,Tp,am5 hA hR (by omega)];rfl
 unfold Dd;rw[aog hA v,ae2];simp only[F,ae2,ai trivial];rw[arP (by omega) (fun i=> !Bk A (cX (bS A R (eR A v)).1) i) (fun i D=>?_),ae2]
 · unfold tT;congr 2;funext x;rw[Bool.not_not]
 · obtain⟨k,hk,rfl,_⟩:=SK.1 D;unfold CO;rw[Tg hk,nV,kC hk,show(bN A[k]).1.1=(A[k]).1.1 from rfl,zo _ _ (by omega)];rfl
end
end Go.Proofs.YtejhifnjgoclpaaGreatDoor.Fx
section
namespace Go.Proofs.YtejhifnjgoclpaaGreatDoor.Fx
open Go.RowKit
noncomputable section
variable {A:List aq} {R:List al} {c:List Int}
theorem aaS {w:Want}:w∈ax A R<-> ∃n∈qZ A R,w.1=n.1/\w.2∈n.2.2:=by
 refine YF.trans ⟨fun h=>?_,fun⟨n,D,e⟩=>as3.2 ?_⟩
 · rcases as3.1 h with h |h
   · obtain⟨n,D,e⟩:=zp.1 h;exact⟨n,as3.2 (.inl D),e⟩
   · obtain⟨i,F,h⟩:=dG.1 h;rcases as3.1 h with h |h
     · obtain⟨n,D,e⟩:=zp.1 h;exact⟨n,as3.2 (.inr (List.mem_flatMap.2 ⟨_,ae3 F,as3.2 (.inl D)⟩)),e⟩
     · obtain⟨j,J,h⟩:=dG.1 h;obtain⟨n,D,e⟩:=zp.1 h;exact⟨n,as3.2 (.inr (List.mem_flatMap.2 ⟨_,ae3 F,as3.2 (.inr (List.mem_flatMap.2 ⟨_,ae3 J,D⟩))⟩)),e⟩
 · rcases as3.1 D with h |h
   · exact .inl (zp.2 ⟨n,h,e⟩)
   · obtain⟨y,N,h⟩:=List.mem_flatMap.1 h;obtain⟨i,F,rfl⟩:=au8 N;refine .inr (dG.2 ⟨i,F,as3.2 ?_⟩);rcases as3.1 h with h |h
     · exact .inl (zp.2 ⟨n,h,e⟩)
     · obtain⟨g,M,h⟩:=List.mem_flatMap.1 h;obtain⟨j,J,rfl⟩:=au8 M;exact .inr (dG.2 ⟨j,J,zp.2 ⟨n,h,e⟩⟩)
theorem aq9 (hA:bu A) (hR:bM R) {w:Want} (hw:w∈ax A R):w.2≠[]:=by obtain⟨n,D,_,h⟩:=aaS.1 hw;exact(FG (F1 hA hR n D)).2 _ h
def taken (A:List aq) (R:List al) (c:List Int) (i:Nat):Prop:= ∃h:i<A.length,ei A c (A[i]).1.1=(i:Int)/\((A[i]).1.1,[])∈(bS A R c).1
def mS (A:List aq) (R:List al) (c:List Int) (v:Nat):Prop:=taken A R c v\/ ∃j,∃h:j<(ax A R).length,v=A.length+j/\(ax A R)[j]∈(bS A R c).1
def Nl (A:List aq) (R:List al) (c:List Int) (x:Int):Prop:=(0<x/\mS A R c (x - 1).toNat)\/(x<0/\ ¬mS A R c (-x - 1).toNat)
theorem aaf {v:Nat} (h:mS A R c v):Nl A R c ((v:Int)+1):=.inl ⟨by omega,by rw[show((v:Int)+1 - 1).toNat=v by omega];exact h⟩
theorem Sf {v:Nat} (h: ¬mS A R c v):Nl A R c (neg v):=by unfold neg;exact .inr ⟨by omega,by rw[show(-(0 - ((v:Int)+1)) - 1).toNat=v by omega];exact h⟩
theorem tE {i:Nat} (D:i<A.length):mS A R c i<->taken A R c i:=
 ⟨fun h=>h.elim id fun⟨j,F,e,_⟩=>absurd e (by omega),.inl⟩
theorem Rh {j:Nat} (D:j<(ax A R).length):mS A R c (A.length+j)<->(ax A R)[j]∈(bS A R c).1:=by
 refine⟨fun h=>?_,fun h=>.inr ⟨j,D,rfl,h⟩⟩;rcases h with⟨h,_⟩ |⟨k,hk,e,h⟩
 · omega
 · obtain rfl:j=k:=by omega
   exact h
def pq (A:List aq) (R:List al) (c:List Int) (l:List Int):Prop:= ∃x∈l,Nl A R c x
theorem Q8 {l:List Int} (h:pq A R c l):pq A R c (bV l):=by obtain⟨x,D,h⟩:=h;exact⟨x,((tC l).2 x).2 D,h⟩
theorem LA {i j:Nat} (h: ¬(mS A R c i/\mS A R c j)):pq A R c [neg i,neg j]:=by
 by_cases e:mS A R c i
 · exact⟨_,.tail _ (.head _),Sf fun q=>h ⟨e,q⟩⟩
 · exact⟨_,.head _,Sf e⟩
variable (hA:bu A) (hR:bM R) (hc:c.length<=1000000) (hG:Good A R c)
include hA hR hc
theorem alA: ∀x∈(bS A R c).1,∀n∈eQ A c x,n∈(bS A R c).2:=by intro x F;obtain⟨j,D,e⟩:=au8 F;exact(qi hA hR hc).done j x D (by rw[ae9 D,e])
include hG
theorem alW {n:al} (F:n∈(bS A R c).2):pq A R c (fq A n):=by
 obtain⟨k,hk,h1,h2⟩:=hG.met n F;have J:=(qi hA hR hc).back n F (n.1,[]) ⟨rfl,.inl rfl⟩
 have D:(A[k]).1.1=n.1:=by
  rcases nP A c n.1 with⟨_,q⟩ |⟨j,N,q,M,_⟩
  · omega
  · obtain rfl:j=k:=by omega
    exact M
 refine⟨(k:Int)+1,au0.2 ⟨(k:Int),wC.2 ⟨k,hk,rfl,?_⟩,rfl⟩,aaf (.inl ⟨hk,by rw[D];exact h1,by rw[D];exact J⟩)⟩
 unfold uq;rw[decide_eq_true D,h2];rfl
theorem al9 {n:al} (F:n∈(bS A R c).2) {f:List UInt8} (hf:f∈n.2.2):pq A R c [cN A.length (ax A R) (n.1,f)]:=by
 have J:=qi hA hR hc;obtain⟨j,D,e⟩:=au8 (aaS.2 ⟨n,J.all n F,rfl,hf⟩:(n.1,f)∈ax A R);refine⟨_,.head _,?_⟩;rw[<-e,SJ A R j D,show(A.length:Int)+(j:Int)+1=((A.length+j:Nat):Int)+1 by omega]
 exact aaf ((Rh D).2 (by rw[e];exact J.back n F _ ⟨rfl,.inr hf⟩))
theorem QZ {N:Nat->aY} {O:Nat->Nat->aY} {D:List Int} {ns:List al} (h:pq A R c D\/ ∀n∈ns,n∈(bS A R c).2) {l:bT} (M:l∈lR A (ax A R) N O D ns):pq A R c l.2:=by
 have app: ∀{m:List Int},(pq A R c D\/pq A R c m)->pq A R c (bV (D++m)):=fun h=>Q8 (h.elim (fun⟨x,F,h⟩=>⟨x,as3.2 (.inl F),h⟩) fun⟨x,F,h⟩=>⟨x,as3.2 (.inr F),h⟩);obtain⟨i,J,h1 |⟨k,hk,h1⟩⟩:=EJ M
 · rw[h1];exact app (h.imp id fun h=>alW hA hR hc hG (h _ (ae3 J)))
 · rw[h1];exact app (h.imp id fun h=>al9 hA hR hc hG (h _ (ae3 J)) (ae3 hk))
theorem ajZ {l:bT} (h:l∈lp A R (ax A R)):pq A R c l.2:=by
 have F:=qi hA hR hc;have N:=alA hA hR hc;unfold lp at h;rcases as3.1 h with h |h
 · exact QZ hA hR hc hG (.inr F.roots) h
 · obtain⟨i,D,h⟩:=dG.1 h;unfold mR at h;rcases as3.1 h with h |h
   · rcases as3.1 h with h |h
     · rcases as3.1 h with h |h
       · obtain⟨k,hk,h⟩:=dG.1 h;rw[au4] at hk;split at h
         · rename_i e;rw[List.getElem_drop] at e;have e:=of_decide_eq_true e;rw[at5.1 h];refine Q8 (LA fun⟨a,b⟩=>?_);obtain⟨_,a,_⟩:=(tE D).1 a;obtain⟨J,b,_⟩:=(tE (show i+1+k<A.length by omega)).1 b
           rw[e,a] at b;omega
         · cases h
       · refine QZ hA hR hc hG ?_ h;by_cases e:mS A R c i
         · obtain⟨_,a,b⟩:=(tE D).1 e;refine .inr fun n M=>N _ b n ?_;rw[LB D a,Qk];exact M
         · exact .inl ⟨_,.head _,Sf e⟩
     · obtain⟨t,F,h⟩:=dG.1 h;unfold sj at h;split at h
       · rename_i e;have e:=of_decide_eq_true e;have O:=aq9 hA hR (ae3 F);cases hf:eP (A[i]).1 ((ax A R)[t]).2 with
         |none=>rw[hf] at h;rw[at5.1 h];refine LA (i:=i) (j:=A.length+t) fun⟨a,b⟩=>?_;obtain⟨_,a,_⟩:=(tE D).1 a;exact hG.lX _ ((Rh F).1 b) O i D (by rw[e];exact a) hf
         |some fd=>
          rw[hf] at h;refine QZ hA hR hc hG ?_ h;by_cases g:mS A R c i/\mS A R c (A.length+t)
          · obtain⟨_,a,b⟩:=(tE D).1 g.1;refine .inr fun n M=>N _ ((Rh F).1 g.2) n ?_;rw[LB D (by rw[e];exact a)]
            unfold mL;rw[if_neg O,hf];exact M
          · exact .inl (LA (i:=i) (j:=A.length+t) g)
       · cases h
   · obtain⟨k,hk,h⟩:=dG.1 h;obtain⟨j,J,h⟩:=dG.1 h;obtain⟨z,U,q,hm⟩:=wC.1 (ae3 J);rw[at5.1 h,q];refine Q8 (LA fun⟨a,b⟩=>?_);obtain⟨_,a,_⟩:=(tE D).1 a;obtain⟨_,b,_⟩:=(tE U).1 b;unfold uq at hm;rw[ae7,decide_eq_true_eq] at hm
     have Y:(i:Int)∈c:=by
      rcases nP A c (A[i]).1.1 with⟨_,q⟩ |⟨j,J,q,_,Z⟩
      · omega
      · rw[a] at q;rw[q];exact Z
     rw[hm.1] at b;have:=hG.pJ i D Y _ (ae3 hk) z U b;rw[hm.2] at this;cases this
end
end Go.Proofs.YtejhifnjgoclpaaGreatDoor.Fx
end
namespace Go.Proofs.YtejhifnjgoclpaaGreatDoor.Fx
open Go.RowKit
set_option maxRecDepth 1000000
noncomputable section
theorem rQ {V R:Type} {f:V->Option (V⊕R)} {v0:V} (n:Nat) (st:Nat->V) (P:Nat->Prop) (Q:R->Prop) {out:R} (J:st 0=v0)
  (h1: ∀k,k<n->(∀j,j<k->P j)->(P k/\f (st k)=some (.inl (st (k+1))))\/ ∃r,Q r/\f (st k)=some (.inr r))
  (h2:f (st n)=some (.inr out)):((∀k,k<n->P k)/\ab f v0=some out)\/ ∃r,Q r/\ab f v0=some r:=by
 subst J
 have: ∀m k,n - k=m->k<=n->(∀j,j<k->P j)->((∀k,k<n->P k)/\ab f (st k)=some out)\/ ∃r,Q r/\ab f (st k)=some r:=by
  intro m
  induction m with
  |zero=>
   intro k hm hk D;obtain rfl:k=n:=by omega
   exact .inl ⟨D,bk h2⟩
  |succ m M=>
   intro k hm hk D;rcases h1 k (by omega) D with⟨a,b⟩ |⟨r,a,b⟩
   · rw[aZ b];refine M (k+1) (by omega) (by omega) fun j F=>?_
     by_cases e:j=k
     · rw[e];exact a
     · exact D j (by omega)
   · exact .inr ⟨r,a,bk b⟩
 exact this n 0 rfl (ae6 _) fun j F=>absurd F (az4 j)
theorem aqK {s v:List UInt8} (hs:iH s=true) (D:dc v=true) (F:v.length<=80):wq s v=some (gj (dU s) (aR v)):=by
 have h1:=XT hs;unfold wq;rw[Qh _ (by omega),if_pos hs,ae2,y8 _ (by omega),if_pos D,SV D,ae2]
 simp only[cond_true];rw[Ya _ (Rl hs) _ (L8 D (by omega))];rfl
variable {A:List aq} {R:List al} {c:List Int}
theorem Up (hA:bu A) {s:List UInt8} (hs:iH s=true) {k:Nat} (hk:k<A.length):wq s (A[k]).1.2.1=some (gj (dU s) (aR (A[k]).1.2.1)):=by have he:=hA.cV _ (ae3 hk);exact aqK hs he.cD he.short.2.1
def acj (A:List aq) (c:List Int):Prop:= ∀k,∀h:k<A.length,(k:Int)∈c-> ∀b∈(A[k]).1.2.2.2.2.2.1,∀j,∀h:j<A.length,ei A c b.1=(j:Int)->gj (dU b.2.1) (aR (A[j]).1.2.1)=false
theorem Zp (hA:bu A) (Y:vw A c) (hc:c.length<=1000000): ∃b,Ez A c=some b/\(b=false->acj A c):=by
 unfold Ez;have main:=rQ (f:=vM) c.length (fun i=>(A,c,(i:Int),())) (fun i=> ∀h:i<c.length,∀k,∀h:k<A.length,c[i]=(k:Int)-> ∀b∈(A[k]).1.2.2.2.2.2.1,∀j,∀h:j<A.length,ei A c b.1=(j:Int)->gj (dU b.2.1) (aR (A[j]).1.2.1)=false) (fun r=>r=.inr ()) (out:=.inl ()) rfl (fun i h _=>?_) ?_
 · rcases main with⟨h,e⟩ |⟨r,rfl,e⟩
   · have e:ab vM (A,c,0,())=_:=e;rw[e];refine⟨false,rfl,fun _ k hk hm=>?_⟩;obtain⟨i,M,e⟩:=au8 hm;exact h i M M k hk e
   · have e:ab vM (A,c,0,())=_:=e;rw[e];exact⟨true,rfl,fun h=>by cases h⟩
 · obtain⟨k,hk,e⟩:=Y _ (ae3 h);have he:=hA.cV _ (ae3 hk);have an:=he.sn;have Z:=rQ (f:=y5) (A[k]).1.2.2.2.2.2.1.length (fun t=>(A,c,(i:Int),(A[k]).1.2.2.2.2.2.1,(t:Int),())) (fun t=> ∀h:t<(A[k]).1.2.2.2.2.2.1.length,∀j,∀F:j<A.length,ei A c ((A[k]).1.2.2.2.2.2.1[t]).1=(j:Int)->gj (dU ((A[k]).1.2.2.2.2.2.1[t]).2.1) (aR (A[j]).1.2.1)=false) (fun r=>r=.inr ()) (out:=.inl (A,c,(i:Int),())) rfl (fun t J _=>?_) ?_
   · rcases Z with⟨q,D⟩ |⟨r,rfl,D⟩
     · have D:ab y5 (A,c,(i:Int),(A[k]).1.2.2.2.2.2.1,0,())=_:=D;refine .inl ⟨fun _ k' av e' b O j F U=>?_,?_⟩
       · obtain rfl:k=k':=by omega
         obtain⟨t,J,rfl⟩:=au8 O;exact q t J J j F U
       · simp only[vM,dY (show((i:Nat):Int)<(c.length:Int) by omega),cond_true,au h,e,au hk,D,ae2,aH,aw (show i+1<=4611686018427387904 by omega)]
     · have D:ab y5 (A,c,(i:Int),(A[k]).1.2.2.2.2.2.1,0,())=_:=D;refine .inr ⟨_,rfl,?_⟩;simp only[vM,dY (show((i:Nat):Int)<(c.length:Int) by omega),cond_true,au h,e,au hk,D,ae2]
   · have ah:=he.pJ _ (ae3 J);simp only[y5,dY (show((t:Nat):Int)<((A[k]).1.2.2.2.2.2.1.length:Int) by omega),cond_true,au J,tD A c _ hc,ae2,aH,aw (show t+1<=4611686018427387904 by omega)]
     rcases nP A c ((A[k]).1.2.2.2.2.2.1[t]).1 with⟨_,q⟩ |⟨j,F,q,_,_⟩
     · rw[q];exact .inl ⟨fun _ j F N=>absurd N (by omega),rfl⟩
     · rw[q,dY (show(0:Int)<=(j:Int) by omega),cond_true,au F,Up hA ah.2.1 F,ae2]
       cases hr:gj (dU ((A[k]).1.2.2.2.2.2.1[t]).2.1) (aR (A[j]).1.2.1) with
       |true=>exact .inr ⟨_,rfl,rfl⟩
       |false=>exact .inl ⟨fun _ j' ar N=>by obtain rfl:j=j':=by omega
                                             exact hr,rfl⟩
   · simp only[y5,as2,decide_false,cond_false]
 · simp only[vM,as2,decide_false,cond_false]
variable {A:List aq} {R:List al} {c:List Int}
abbrev QW {B:Type} (r:B⊕(Int×Unit)):Prop:= ∃w:Int,w≠0/\r=.inr (w,())
theorem asC (hc:c.length<=1000000):(vw A c/\(∀i,∀h:i<c.length,0<i-> ∀k,∀hk:k<A.length,c[i]=(k:Int)-> ∀j,∀J:j<A.length,c[i - 1]'(by omega)=(j:Int)->j<k/\(A[k]).1.1≠(A[j]).1.1)/\ab zP (A,R,c,0,())=some (.inl (A,R,c,())))\/ ∃r,QW r/\ab zP (A,R,c,0,())=some r:=by
 have main:=rQ (f:=zP) c.length (fun i=>(A,R,c,(i:Int),())) (fun i=> ∀h:i<c.length,(∃k,k<A.length/\c[i]=(k:Int))/\(0<i-> ∀k,∀hk:k<A.length,c[i]=(k:Int)-> ∀j,∀J:j<A.length,c[i - 1]'(by omega)=(j:Int)->j<k/\(A[k]).1.1≠(A[j]).1.1)) QW (out:=.inl (A,R,c,())) rfl (fun i h U=>?_) ?_
 · rcases main with⟨h,e⟩ |main
   · exact .inl ⟨fun x Y=>by obtain⟨i,D,rfl⟩:=au8 Y;exact(h i D D).1,fun i D=>(h i D D).2,e⟩
   · exact .inr main
 · have one:QW (B:=List aq×List al×List Int×Unit) (.inr (1,())):=⟨1,by decide,rfl⟩
   simp only[zP,dY (show((i:Nat):Int)<(c.length:Int) by omega),cond_true,au h,aH,aw (show i+1<=4611686018427387904 by omega)]
   by_cases M:c[i]<0
   · rw[dY M];exact .inr ⟨_,one,rfl⟩
   · rw[dN M,cond_false];by_cases N:(A.length:Int)<=c[i]
     · rw[dY N];exact .inr ⟨_,one,rfl⟩
     · rw[dN N,cond_false];obtain⟨k,e⟩: ∃k:Nat,c[i]=(k:Int):=⟨(c[i]).toNat,by omega⟩
       have hk:k<A.length:=by omega
       by_cases h0:0<i
       · obtain⟨⟨j,J,q⟩,_⟩:=U (i - 1) (by omega) (by omega)
         rw[dY (show(0:Int)<(i:Int) by omega),cond_true,show(i:Int) - 1=((i - 1:Nat):Int) by omega,aw (show i - 1<=4611686018427387904 by omega),au (l:=c) (show i - 1<c.length by omega),q,e]
         by_cases O:(k:Int)<=(j:Int)
         · rw[dY O];exact .inr ⟨_,one,rfl⟩
         · rw[dN O,cond_false,au hk,aw (show i - 1<=4611686018427387904 by omega),au (l:=c) (show i - 1<c.length by omega),q,au J]
           by_cases F:(A[k]).1.1=(A[j]).1.1
           · rw[dY F];exact .inr ⟨_,one,rfl⟩
           · rw[dN F];refine .inl ⟨fun _=>⟨⟨k,hk,e⟩,fun _ k' an g Z ah g2=>?_⟩,rfl⟩;obtain rfl:k=k':=by omega
             obtain rfl:j=Z:=by omega
             exact⟨by omega,F⟩
       · rw[dN (show¬(0:Int)<(i:Int) by omega)]
         exact .inl ⟨fun _=>⟨⟨k,hk,e⟩,fun g=>absurd g h0⟩,rfl⟩
 · simp only[zP,as2,decide_false,cond_false]
theorem asB (hA:bu A) (hc:c.length<=1000000) (ts:List aV) (ns:List al) (J:ns.length<=1000000) (N: ∀n∈ns,nY 4 n):
  ((∀n∈ns,∃k,∃h:k<A.length,ei A c n.1=(k:Int)/\gj (dU n.2.1) (aR (A[k]).1.2.1)=true)/\ab zO (A,c,0,ts,ns,())=some (.inl (A,c,ts,ns,())))\/ ∃r,QW r/\ab zO (A,c,0,ts,ns,())=some r:=by
 have main:=rQ (f:=zO) ns.length (fun i=>(A,c,(i:Int),ts,ns,())) (fun i=> ∀h:i<ns.length,∃k,∃h:k<A.length,ei A c (ns[i]).1=(k:Int)/\gj (dU (ns[i]).2.1) (aR (A[k]).1.2.1)=true) QW (out:=.inl (A,c,ts,ns,())) rfl (fun i h _=>?_) ?_
 · rcases main with⟨h,e⟩ |main
   · exact .inl ⟨fun n J=>by obtain⟨i,F,rfl⟩:=au8 J;exact h i F F,e⟩
   · exact .inr main
 · have M:=N _ (ae3 h);simp only[zO,dY (show((i:Nat):Int)<(ns.length:Int) by omega),cond_true,au h,tD A c _ hc,ae2,aH,aw (show i+1<=4611686018427387904 by omega)]
   rcases nP A c (ns[i]).1 with⟨_,q⟩ |⟨j,D,q,_,_⟩
   · rw[q];exact .inr ⟨_,⟨2,by decide,rfl⟩,rfl⟩
   · rw[q,dN (show¬(j:Int)<0 by omega),cond_false,au D,Up hA M.2.1 D,ae2]
     cases O:gj (dU (ns[i]).2.1) (aR (A[j]).1.2.1) with
     |true=>exact .inl ⟨fun _=>⟨j,D,q,O⟩,rfl⟩
     |false=>exact .inr ⟨_,⟨2,by decide,rfl⟩,rfl⟩
 · simp only[zO,as2,decide_false,cond_false]
theorem aay {e:bO} (he:dD e) (s:List UInt8): ∃k:Int,tM e s=some k/\(k<0<->eP e s=none):=by
 have F:=he.iW;refine⟨_,Sv e s (by omega),?_⟩
 unfold eP;rcases kX e.2.2.2.2.2.2.2 (fun f=>decide (f.1=s)) with⟨_,q⟩ |⟨j,D,_,q,_⟩
 · rw[q,if_pos (by decide)];exact⟨fun _=>rfl,fun _=>by decide⟩
 · rw[q,if_neg (by omega),as1,ae9 D];exact⟨fun h=>by omega,fun h=>by cases h⟩
theorem asA (hA:bu A) (hc:c.length<=1000000) (ts:List aV) (ns:List al) (J:ts.length<=1000000) (M: ∀t∈ts,∃k,k<A.length/\ei A c t.1=(k:Int)):
  ((∀t∈ts,t.2≠[]-> ∀k,∀h:k<A.length,ei A c t.1=(k:Int)->eP (A[k]).1 t.2≠none)/\ab zN (A,c,0,ts,ns,())=some (.inl (A,c,ts,ns,())))\/ ∃r,QW r/\ab zN (A,c,0,ts,ns,())=some r:=by
 have main:=rQ (f:=zN) ts.length (fun i=>(A,c,(i:Int),ts,ns,())) (fun i=> ∀h:i<ts.length,(ts[i]).2≠[]-> ∀k,∀h:k<A.length,ei A c (ts[i]).1=(k:Int)->eP (A[k]).1 (ts[i]).2≠none) QW (out:=.inl (A,c,ts,ns,())) rfl (fun i h _=>?_) ?_
 · rcases main with⟨h,e⟩ |main
   · exact .inl ⟨fun n J=>by obtain⟨i,D,rfl⟩:=au8 J;exact h i D D,e⟩
   · exact .inr main
 · obtain⟨j,F,q⟩:=M _ (ae3 h);simp only[zN,dY (show((i:Nat):Int)<(ts.length:Int) by omega),cond_true,au h,tD A c _ hc,ae2,aH,aw (show i+1<=4611686018427387904 by omega),q,au F]
   by_cases e:(ts[i]).2=[]
   · rw[dY e];exact .inl ⟨fun _ q=>absurd e q,rfl⟩
   · obtain⟨k,hk,N⟩:=aay (hA.cV _ (ae3 F)) (ts[i]).2;rw[dN e,hk];simp only[as4,cond_true,ae2];by_cases g:k<0
     · rw[dY g];exact .inr ⟨_,⟨3,by decide,rfl⟩,rfl⟩
     · rw[dN g];refine .inl ⟨fun _ _ O U Y=>?_,rfl⟩;obtain rfl:j=O:=by omega
       exact fun z=>g (N.2 z)
 · simp only[zN,as2,decide_false,cond_false]
theorem asz (D:vw A c) (hc:c.length<=1000000) (l:List (List UInt8)) (F:l.length<=1000000):
  ((∀k,∀h:k<A.length,(k:Int)∈c->(A[k]).1.1∈l)/\ab zM (A,c,l,0,())=some (.inl ()))\/ ∃r,QW r/\ab zM (A,c,l,0,())=some r:=by
 have main:=rQ (f:=zM) c.length (fun i=>(A,c,l,(i:Int),())) (fun i=> ∀h:i<c.length,∀k,∀h:k<A.length,c[i]=(k:Int)->(A[k]).1.1∈l) QW (out:=.inl ()) rfl (fun i h _=>?_) ?_
 · rcases main with⟨h,e⟩ |main
   · exact .inl ⟨fun k hk hm=>by obtain⟨i,D,q⟩:=au8 hm;exact h i D D k hk q,e⟩
   · exact .inr main
 · obtain⟨k,hk,e⟩:=D _ (ae3 h);simp only[zM,dY (show((i:Nat):Int)<(c.length:Int) by omega),cond_true,au h,e,au hk,qp l _ F,ae2,aH,aw (show i+1<=4611686018427387904 by omega)]
   cases J:cw l (A[k]).1.1 with
   |true=>exact .inl ⟨fun _ M N q=>by obtain rfl:k=M:=by omega
                                      exact(qD _ _).1 J,rfl⟩
   |false=>exact .inr ⟨_,⟨5,by decide,rfl⟩,rfl⟩
 · simp only[zM,as2,decide_false,cond_false]
theorem aoE (hA:bu A) (hR:bM R) (hc:c.length<=1000000): ∃w,Mc A R c=some w/\(w=0->l7 A R c):=by
 have F:=qi (choice:=c) hA hR hc;have Z:=F.len hA hR;have Y:=F.Cn;unfold Mc;rcases asC (A:=A) (R:=R) hc with⟨J,h1,e⟩ |⟨r,⟨w,hw,rfl⟩,e⟩
 · rw[e];simp only[ae2,E3 hA hR hc];rcases asB hA hc (bS A R c).1 (bS A R c).2 (by omega) (fun n D=>F1 hA hR n (F.all n D)) with⟨h2,e⟩ |⟨r,⟨w,hw,rfl⟩,e⟩
   · rw[e];simp only[ae2];rcases asA hA hc (bS A R c).1 (bS A R c).2 (by omega) (fun t q=>by obtain⟨n,D,e⟩:=F.named t q;obtain⟨k,hk,g,_⟩:=h2 n D;exact⟨k,hk,by rw[e.1];exact g⟩) with⟨M,e⟩ |⟨r,⟨w,hw,rfl⟩,e⟩
     · rw[e];simp only[ae2];obtain⟨b,O,U⟩:=Zp hA J hc;rw[O];cases b with
       |true=>exact⟨4,rfl,fun h=>absurd h (by decide)⟩
       |false=>
        have D:=FI (bS A R c).1;simp only[ae2,cond_false,Se ((bS A R c).1,(bS A R c).2) (show(bS A R c).1.length<=100000 by omega)]
        rcases asz J hc (cX (bS A R c).1) (by omega) with⟨N,e⟩ |⟨r,⟨w,hw,rfl⟩,e⟩
        · rw[e];exact⟨0,rfl,fun _=>⟨J,h1,⟨h2,M,U rfl⟩,N⟩⟩
        · rw[e];exact⟨w,rfl,fun h=>absurd h hw⟩
     · rw[e];exact⟨w,rfl,fun h=>absurd h hw⟩
   · rw[e];exact⟨w,rfl,fun h=>absurd h hw⟩
 · rw[e];exact⟨w,rfl,fun h=>absurd h hw⟩
theorem br.iter {V R:Type} {f g:V->Option (V⊕R)} (h: ∀v,br (f v) (g v)): ∀n v,br (ie n f v) (ie n g v)
 |0,_=>br.refl _
 |n+1,v=>by
  intro r;unfold ie;cases e:f v with
  |none=>intro q;cases q
  |some x=>
   rw[h v x e];cases x with
   |inl v'=>exact br.iter h n v' r
   |inr r=>exact id
theorem br.asf {V R:Type} {f g:V->Option (V⊕R)} (h: ∀v,br (f v) (g v)) (v:V):br (ab f v) (ab g v):=fun r q=>by obtain⟨n,D⟩:=mG.1 q;exact mG.2 ⟨n,br.iter h n v r D⟩
variable {A:List aq} {R:List al} {c:List Int}
theorem aqb (l out:List Int) (i:Nat) (D:i<l.length): ∀a,a<=out.length->out.length<=1000000-> ∃b,b<=a/\ab Kg (l,out,(i:Int),(a:Int),())=some (l,out,(i:Int),(b:Int),()):=by
 intro a
 induction a with
 |zero=>intro _ _;exact⟨0,ae5 _,bk rfl⟩
 |succ a J=>
  intro h F;by_cases e:l[i]<out[a]
  · obtain⟨b,M,h2⟩:=J (by omega) F
    refine⟨b,by omega,?_⟩
    rw[<-h2];refine aZ ?_;simp only[Kg,dY (show(0:Int)<((a+1:Nat):Int) by omega),cond_true,show((a+1:Nat):Int) - 1=(a:Int) by omega,aw (show a<=4611686018427387904 by omega),au (show a<out.length by omega),au D,dY e]
  · refine⟨a+1,ae5 _,bk ?_⟩;simp only[Kg,dY (show(0:Int)<((a+1:Nat):Int) by omega),cond_true,show((a+1:Nat):Int) - 1=(a:Int) by omega,aw (show a<=4611686018427387904 by omega),au (show a<out.length by omega),au D,dN e,cond_false]
theorem amW (l:List Int) (O:l.length<=1000): ∃r,K2 l=some r/\r.length=l.length:=by
 have: ∀n k (out:List Int),l.length - k=n->k<=l.length->out.length=k-> ∃r,ab DV (l,out,(k:Int),())=some (r,())/\r.length=l.length:=by
  intro n
  induction n with
  |zero=>
   intro k out J hk D;obtain rfl:k=l.length:=by omega
   exact⟨out,bk (by simp only[DV,as2,decide_false,cond_false]),D⟩
  |succ n M=>
   intro k out J hk D;have h:k<l.length:=by omega
   obtain⟨b,N,h1⟩:=aqb l out k h out.length (ae5 _) (by omega)
   obtain⟨r,h2,F⟩:=M (k+1) (((out.take b)++[l[k]])++out.drop b) (by omega) h (by simp only[as0,at6,au4,au7];omega)
   refine⟨r,?_,F⟩;rw[<-h2];refine aZ ?_;simp only[DV,dY (show((k:Nat):Int)<(l.length:Int) by omega),cond_true,h1,ae2,as1,Int.toNat_zero,List.drop_zero,au h,au3]
   rw[ai ⟨by omega,by omega,by omega⟩,ai (by rw[at6];omega),ai (by rw[at6,au7];omega),ai ⟨by omega,by omega,Int.le_refl _⟩,ai (by simp only[as0,at6,au4,au7];omega),aH,aw (show k+1<=4611686018427387904 by omega)]
 obtain⟨r,h1,h2⟩:=this _ 0 [] rfl (ae6 _) rfl;unfold K2;rw[show ab DV (l,[],0,())=_ from h1]
 exact⟨r,rfl,h2⟩
structure asQ (A:List aq) (R:List al) (c:List Int):Prop where
 met: ∀n∈(bS A R c).2,∀k,∀h:k<A.length,ei A c n.1=(k:Int)->gj (dU n.2.1) (aR (A[k]).1.2.1)=true
 lX: ∀t∈(bS A R c).1,t.2≠[]-> ∀k,∀h:k<A.length,ei A c t.1=(k:Int)->eP (A[k]).1 t.2≠none
 pJ:acj A c
theorem asO (hA:bu A) (hc:c.length<=1000000) (L:Int) (ts:List aV) (ns:List al) (J:ns.length<=1000000) (O: ∀n∈ns,nY 4 n):
  ((∀n∈ns,∀k,∀h:k<A.length,ei A c n.1=(k:Int)->gj (dU n.2.1) (aR (A[k]).1.2.1)=true)/\ab yP (c,0,ts,ns,A,R,L,())=some (.inl (c,ts,ns,A,R,L,())))\/ ∃r,r=.inr (A,R,L,())/\ab yP (c,0,ts,ns,A,R,L,())=some r:=by
 have main:=rQ (f:=yP) ns.length (fun i=>(c,(i:Int),ts,ns,A,R,L,())) (fun i=> ∀h:i<ns.length,∀k,∀h:k<A.length,ei A c (ns[i]).1=(k:Int)->gj (dU (ns[i]).2.1) (aR (A[k]).1.2.1)=true) (fun r=>r=.inr (A,R,L,())) (out:=.inl (c,ts,ns,A,R,L,())) rfl (fun i h _=>?_) ?_
 · rcases main with⟨h,e⟩ |main
   · exact .inl ⟨fun n J=>by obtain⟨i,D,rfl⟩:=au8 J;exact h i D D,e⟩
   · exact .inr main
 · have N:=O _ (ae3 h);simp only[yP,dY (show((i:Nat):Int)<(ns.length:Int) by omega),cond_true,au h,tD A c _ hc,ae2,aH,aw (show i+1<=4611686018427387904 by omega)]
   rcases nP A c (ns[i]).1 with⟨_,q⟩ |⟨j,F,q,_,_⟩
   · rw[q];exact .inl ⟨fun _ k hk M=>absurd M (by omega),rfl⟩
   · rw[q,dY (show(0:Int)<=(j:Int) by omega),cond_true,au F,Up hA N.2.1 F,ae2]
     cases U:gj (dU (ns[i]).2.1) (aR (A[j]).1.2.1) with
     |true=>exact .inl ⟨fun _ k hk M=>by obtain rfl:j=k:=by omega
                                         exact U,rfl⟩
     |false=>exact .inr ⟨_,rfl,rfl⟩
 · simp only[yP,as2,decide_false,cond_false]
theorem asN (hA:bu A) (hc:c.length<=1000000) (L:Int) (ts:List aV) (ns:List al) (J:ts.length<=1000000):
  ((∀t∈ts,t.2≠[]-> ∀k,∀h:k<A.length,ei A c t.1=(k:Int)->eP (A[k]).1 t.2≠none)/\ab yO (c,0,ts,ns,A,R,L,())=some (.inl (c,A,R,L,())))\/ ∃r,r=.inr (A,R,L,())/\ab yO (c,0,ts,ns,A,R,L,())=some r:=by
 have main:=rQ (f:=yO) ts.length (fun i=>(c,(i:Int),ts,ns,A,R,L,())) (fun i=> ∀h:i<ts.length,(ts[i]).2≠[]-> ∀k,∀h:k<A.length,ei A c (ts[i]).1=(k:Int)->eP (A[k]).1 (ts[i]).2≠none) (fun r=>r=.inr (A,R,L,())) (out:=.inl (c,A,R,L,())) rfl (fun i h _=>?_) ?_
 · rcases main with⟨h,e⟩ |main
   · exact .inl ⟨fun n J=>by obtain⟨i,D,rfl⟩:=au8 J;exact h i D D,e⟩
   · exact .inr main
 · simp only[yO,dY (show((i:Nat):Int)<(ts.length:Int) by omega),cond_true,au h,tD A c _ hc,ae2,aH,aw (show i+1<=4611686018427387904 by omega)]
   rcases nP A c (ts[i]).1 with⟨_,q⟩ |⟨j,F,q,_,_⟩
   · rw[q];exact .inl ⟨fun _ _ k hk M=>absurd M (by omega),rfl⟩
   · rw[q,dY (show(0:Int)<=(j:Int) by omega),cond_true]
     by_cases e:(ts[i]).2=[]
     · rw[dY e];exact .inl ⟨fun _ q=>absurd e q,rfl⟩
     · obtain⟨k,hk,N⟩:=aay (hA.cV _ (ae3 F)) (ts[i]).2;rw[dN e,as4,cond_true,au F,hk,ae2];by_cases g:k<0
       · rw[dY g];exact .inr ⟨_,rfl,rfl⟩
       · rw[dN g];refine .inl ⟨fun _ _ O U M=>?_,rfl⟩;obtain rfl:j=O:=by omega
         exact fun z=>g (N.2 z)
 · simp only[yO,as2,decide_false,cond_false]
theorem arU (hA:bu A) (hR:bM R) (M:vw A c) (hc:c.length<=1000000) (L:Int): ∃b,Kh c (A,R,L)=some (b,(A,R,L))/\(b=false->asQ A R c):=by
 have D:=qi (choice:=c) hA hR hc;have U:=D.len hA hR;have O:=D.Cn;unfold Kh;simp only[E3 hA hR hc,ae2];rcases asO (R:=R) hA hc L (bS A R c).1 (bS A R c).2 (by omega) (fun n N=>F1 hA hR n (D.all n N)) with⟨h1,e⟩ |⟨r,rfl,e⟩
 · rw[e];simp only[ae2];rcases asN (R:=R) hA hc L (bS A R c).1 (bS A R c).2 (by omega) with⟨h2,e⟩ |⟨r,rfl,e⟩
   · rw[e];obtain⟨b,F,J⟩:=Zp hA M hc;simp only[ae2,F];exact⟨b,rfl,fun h=>⟨h1,h2,J h⟩⟩
   · rw[e];exact⟨true,rfl,fun h=>by cases h⟩
 · rw[e];exact⟨true,rfl,fun h=>by cases h⟩
variable {A:List aq} {R:List al} {c:List Int}
abbrev asx:=Option (List Int×Bool×List aq×List al×Int)
theorem apN (f g:List Int×(List aq×List al×Int)×Unit->asx) (h: ∀x,br (f x) (g x)) (x:List Int×(List aq×List al×Int)×Unit):br (nL f x) (nL g x):=by unfold nL yL;refine br.J (br.cond (br.refl _) (br.bind (br.refl _) fun b=>br.cond (br.refl _) (br.bind (br.refl _) fun r=>br.bind (br.refl _) fun n=>br.J (br.bind (br.loop rfl _) fun v=>br.cond (br.refl _) (br.bind (br.asf (fun v=>?_) _) fun o=>br.refl _)))));unfold qc;exact br.cond (br.bind (br.refl _) fun y=>br.cond (br.refl _) (br.J (br.J (br.bind (h _) fun b=>br.refl _)))) (br.refl _)
theorem asc (rc) (hc:c.length<=1000000) (l:List (List UInt8)) (O:l.length<=1000000) (L:Int): ∀n,n<=l.length-> ∀o:List UInt8,
  ∃o',ab (JQ rc) (c,l,o,(n:Int) - 1,A,R,L,())=some (c,o',A,R,L,())/\(o'=o/\(∀j,∀h:j<l.length,j<n-> ∃k,k<A.length/\ei A c l[j]=(k:Int))\/o'∈l/\ei A c o'= -1):=by
 intro n
 induction n with
 |zero=>intro _ o;exact⟨o,bk rfl,.inl ⟨rfl,fun j _ h=>absurd h (az4 j)⟩⟩
 |succ n D=>
  intro U o;have h:n<l.length:=by omega
  rw[show((n+1:Nat):Int) - 1=(n:Int) by omega]
  have c1: ∀{R:Type} (q:Option R),J (aa .i64 ((n:Int) - 1)) q=q:=fun q=>ai (bd (by omega))
  rcases nP A c l[n] with⟨_,q⟩ |⟨j,M,q,_,_⟩
  · obtain⟨o',h1,h2⟩:=D (by omega) l[n]
    refine⟨o',?_,?_⟩
    · rw[<-h1];refine aZ ?_;simp only[JQ,dY (show(0:Int)<=(n:Int) by omega),cond_true,au h,tD A c _ hc,ae2,q,dY (show(-1:Int)<0 by decide),c1]
    · rcases h2 with⟨rfl,_⟩ |h2
      · exact .inr ⟨ae3 h,q⟩
      · exact .inr h2
  · obtain⟨o',h1,h2⟩:=D (by omega) o
    refine⟨o',?_,?_⟩
    · rw[<-h1];refine aZ ?_;simp only[JQ,dY (show(0:Int)<=(n:Int) by omega),cond_true,cond_false,au h,tD A c _ hc,ae2,q,dN (show¬(j:Int)<0 by omega),c1]
    · rcases h2 with⟨e,h2⟩ |h2
      · refine .inl ⟨e,fun i F N=>?_⟩;by_cases e:i=n
        · subst e;exact⟨j,M,q⟩
        · exact h2 i F (by omega)
      · exact .inr h2
structure Found (A:List aq) (R:List al) (L:Int) (r:List Int) (ok:Bool) (L':Int):Prop where
 low:(L<=0->L'=L - 1)/\(0<L-> -361*L<=L'/\L'<=L - 1)
 short:r.length<=1000
 aJ:ok=true-> ∃c',c'.length<=1000/\Good A R c'
theorem aod (hA:bu A) (hR:bM R): ∀(n:Nat) (L:Int) (c:List Int),vw A c->(c.length:Int)+L<=300-> -120000<=L->L<=(n:Int)->
  ∃r ok Z,fa nL (n+1) (c,(A,R,L),())=some (r,ok,A,R,Z)/\Found A R L r ok Z:=by
 have hs:=hA.many;intro n
 induction n with
 |zero=>
  intro L c hi av aE hL;refine⟨[],false,L - 1,?_,⟨fun _=>rfl,fun h=>by omega⟩,ae6 _,fun h=>by cases h⟩
  show yL _ c (A,R,L)=_;unfold yL;rw[ai (bd (by dsimp only;omega)),dY (show L - 1<0 by omega)];rfl
 |succ n ih=>
  intro L c hi av aE hL;show∃r ok Z,yL (fun a0 F=>fa nL (n+1) (a0,F,())) c (A,R,L)=_/\_;unfold yL;rw[ai (bd (by dsimp only;omega))]
  by_cases h0:L - 1<0
  · rw[dY h0];exact⟨[],false,L - 1,rfl,⟨fun _=>rfl,fun h=>by omega⟩,ae6 _,fun h=>by cases h⟩
  · have hc:c.length<=1000000:=by omega
    have U:=qi (choice:=c) hA hR hc;have hl:=U.len hA hR;have a8:=FI (bS A R c).1;obtain⟨b,hb,M⟩:=arU hA hR hi hc (L - 1);rw[dN h0];simp only[cond_false,hb,ae2];cases b with
    |true=>exact⟨[],false,L - 1,rfl,⟨fun _=>by omega,fun h=>⟨by omega,by omega⟩⟩,ae6 _,fun h=>by cases h⟩
    |false=>
     have M:=M rfl;obtain⟨o,ho,N⟩:=asc (A:=A) (R:=R) (c:=c) (fun a0 F=>fa nL (n+1) (a0,F,())) hc (cX (bS A R c).1) (by omega) (L - 1) (cX (bS A R c).1).length (ae5 _) []
     simp only[cond_false,E3 hA hR hc,Se (bS A R c) (by omega),ae2]
     rw[ai (bd (by omega)),ho]
     simp only[ae2]
     have a7: ∀s∈cX (bS A R c).1,s≠[]:=fun s h e=>by
      obtain⟨m,hm,e2⟩:=U.named _ (FH.1 h);have:=(F1 hA hR m (U.all m hm)).1;rw[<-e2.1,show((s,[]):aV).1=s from rfl,e] at this
      exact absurd this (by decide)
     by_cases e:o=[]
     · obtain⟨r,hr,bb⟩:=amW c (by omega)
       rw[dY e,cond_true,hr];refine⟨r,true,L - 1,rfl,⟨fun _=>by omega,fun h=>⟨by omega,by omega⟩⟩,by omega,fun _=>⟨c,by omega,⟨fun m hm=>?_,M.lX,M.pJ⟩⟩⟩
       rcases N with⟨_,N⟩ |⟨N,_⟩
       · have a6:=FH.2 (U.back m hm (m.1,[]) ⟨rfl,.inl rfl⟩);obtain⟨j,hj,e⟩:=au8 a6;obtain⟨k,hk,q⟩:=N j hj hj;rw[e] at q;exact⟨k,hk,q,M.met m hm k hk q⟩
       · exact absurd e (a7 _ N)
     · rw[dN e,cond_false]
       have main: ∀m k (l:Int),A.length - k=m->k<=A.length->l<=L - 1-> -361*(L - 1) - (k:Int)<=l->
         (∃D,ab (qc (fun a0 F=>fa nL (n+1) (a0,F,()))) (c,o,(k:Int),A,R,l,())=some (.inl (A,R,D,()))/\D<=L - 1/\ -361*(L - 1) - 360<=D)\/
         (∃r D,ab (qc (fun a0 F=>fa nL (n+1) (a0,F,()))) (c,o,(k:Int),A,R,l,())=some (.inr (r,A,R,D,()))/\D<=L - 1/\ -361*(L - 1) - 360<=D/\r.length<=1000/\ ∃c',c'.length<=1000/\Good A R c'):=by
        intro m
        induction m with
        |zero=>
         intro k l hm hk h1 h2;obtain rfl:k=A.length:=by omega
         refine .inl ⟨l,bk ?_,h1,by omega⟩
         simp only[qc,as2,decide_false,cond_false]
        |succ m ar=>
         intro k l hm hk h1 h2;have J:k<A.length:=by omega
         by_cases g:(A[k]).1.1=o
         · have az:vw A (c++[(k:Int)]):=fun x hx=>(as3.1 hx).elim (hi x) fun h=>⟨k,J,at5.1 h⟩;have hlen:(c++[(k:Int)]).length=c.length+1:=as0;obtain⟨r,ok,D,Y,O⟩:=ih l (c++[(k:Int)]) az (by omega) (by omega) (by omega)
           have an:=O.low
           have ah:D<=L - 1/\ -361*(L - 1) - ((k+1:Nat):Int)<=D:=by
            by_cases p:l<=0
            · have:=an.1 p;omega
            · have:=an.2 (by omega);omega
           cases ok with
           |true=>
            refine .inr ⟨r,D,bk ?_,ah.1,by omega,O.short,O.aJ rfl⟩
            simp only[qc,dY (show((k:Nat):Int)<(A.length:Int) by omega),cond_true,au J,dY g,ae8,cond_false]
            rw[ai (by omega),ai (by rw[au7];omega),Y];rfl
           |false=>
            rw[aZ (v':=(c,o,((k+1:Nat):Int),A,R,D,())) ?_]
            · exact ar (k+1) D (by omega) J ah.1 ah.2
            · simp only[qc,dY (show((k:Nat):Int)<(A.length:Int) by omega),cond_true,au J,dY g,ae8,cond_false]
              rw[ai (by omega),ai (by rw[au7];omega),Y]
              simp only[ae2,cond_false,aH,aw (show k+1<=4611686018427387904 by omega)]
         · rw[aZ (v':=(c,o,((k+1:Nat):Int),A,R,l,())) ?_]
           · exact ar (k+1) l (by omega) J h1 (by omega)
           · simp only[qc,dY (show((k:Nat):Int)<(A.length:Int) by omega),cond_true,au J,dN g,as4,aH,aw (show k+1<=4611686018427387904 by omega)]
       rcases main A.length 0 (L - 1) rfl (ae6 _) (Int.le_refl _) (by omega) with⟨D,q,Y,O⟩ |⟨r,D,q,Y,O,q3,q4⟩
       · have q:ab (qc (fun a0 F=>fa nL (n+1) (a0,F,()))) (c,o,0,A,R,L - 1,())=_:=q;rw[q];exact⟨[],false,D,rfl,⟨fun _=>by omega,fun h=>⟨by omega,by omega⟩⟩,ae6 _,fun h=>by cases h⟩
       · have q:ab (qc (fun a0 F=>fa nL (n+1) (a0,F,()))) (c,o,0,A,R,L - 1,())=_:=q;rw[q];exact⟨r,true,D,rfl,⟨fun _=>by omega,fun h=>⟨by omega,by omega⟩⟩,q3,fun _=>q4⟩
theorem aou (hA:bu A) (hR:bM R): ∃r ok k,Lk A R 300=some (r,ok,k)/\r.length<=1000/\(ok=true-> ∃c',c'.length<=1000/\Good A R c'):=by
 obtain⟨r,ok,J,h1,h2⟩:=aod hA hR 300 300 [] (fun x F=>(av6 F).elim) (by decide) (by decide) (by decide)
 unfold Lk WJ;rw[Tk (fun f g D x r=>apN f g (fun x r=>D x r) x r) h1];exact⟨r,ok,_,rfl,h2.short,h2.aJ⟩
variable {A:List aq} {R:List al} {c:List Int}
theorem ZR {α β:Type} {L:List α} {g:α->β}: ∀(l:List β),(∀f∈l,∃x∈L,g x=f)-> ∃ls:List α,ls.map g=l/\ ∀x∈ls,x∈L
 |[],_=>⟨[],rfl,fun x D=>(av6 D).elim⟩
 |f::t,h=>by obtain⟨x,D,e⟩:=h f (.head _);obtain⟨ls,J,h2⟩:=ZR t fun y F=>h y (.tail _ F);exact⟨x::ls,by rw[ay3,e,J],fun y F=>(at3.1 F).elim (fun q=>q▸D) (h2 y)⟩
theorem alL (hA:bu A) (hR:bM R) (hT:(ax A R).length<=400): ∃ls:List bT,nK (bn A R)=some (ls.map (·.1))/\(∀l∈ls,l∈lp A R (ax A R))/\ls.length<=900000000:=by
 obtain⟨D,f1,f2,f3⟩:=L2 A hA R hR hT;obtain⟨ls,e,h⟩:=ZR (L:=lp A R (ax A R)) (g:=fun l:bT=>l.1) D fun f hf=>by obtain⟨x,J,e⟩:=au0.1 ((RX A R (ax A R)).mem_iff.2 (f2.mem_iff.1 hf));exact⟨x,J,e⟩
 refine⟨ls,by rw[f1,<-e],h,?_⟩
 have h1:=f2.length_eq;have h2:=RY A hA R hR (ax A R) (by omega)
 have F:=hA.many;have M:(2000+40*(ax A R).length)*A.length<=18000*360:=Nat.mul_le_mul (by omega) F
 have N:ls.length=D.length:=by rw[<-e,ae4]
 omega
def pj (m:List Bool) (x:Int):Bool:=if x=0 then true else m.getD (x.natAbs - 1) false==decide (0<x)
theorem Zz (m:List Bool) (hm:m.length<=1000000) (x:Int) (J: -1000000<=x/\x<=1000000):wk x m=some (pj m x):=by
 have F:AE x=some ((x.natAbs:Nat):Int):=by
  unfold AE;rw[ai (bd (by omega))]
  split
  · congr 1;omega
  · congr 1;omega
 unfold wk pj;rw[F,ae2];by_cases D:x=0
 · subst D;rfl
 · rw[if_neg D,dY (show(1:Int)<=((x.natAbs:Nat):Int) by omega),cond_true]
   by_cases h:x.natAbs<=m.length
   · rw[dY (show((x.natAbs:Nat):Int)<=(m.length:Int) by omega),cond_true,show((x.natAbs:Nat):Int) - 1=((x.natAbs - 1:Nat):Int) by omega,aw (show x.natAbs - 1<=4611686018427387904 by omega),au (show x.natAbs - 1<m.length by omega)]
     rw[aw8,ae9 (show x.natAbs - 1<m.length by omega)];rfl
   · rw[dN (show¬((x.natAbs:Nat):Int)<=(m.length:Int) by omega),cond_false,aw8,ay2 (by omega)];rfl
theorem ab8 (m:List Bool) (hm:m.length<=1000000) (l:List Int) (F:l.length<=1000000) (D:dV l):IX l m=some (!l.any (pj m)):=by
 have h:=iT (f:=xX) l (pj m) (fun k=>(l,m,(l.length:Int),(k:Int),())) (fun k=>Sum.inr ((k:Int),())) (Sum.inl ()) (fun k h hp=>by
  have:=D _ (ae3 h);simp only[xX,IK,dY (show(k:Int)<(l.length:Int) by omega),cond_true,cond_false,au h,Zz m hm _ this,hp,ae2,aH,aw (show k+1<=4611686018427387904 by omega)]) (fun k h hp=>by
  have:=D _ (ae3 h);simp only[xX,IK,dY (show(k:Int)<(l.length:Int) by omega),cond_true,au h,Zz m hm _ this,hp,ae2]) (by
  simp only[xX,dN (show¬(l.length:Int)<(l.length:Int) by omega),cond_false])
 unfold IX OZ O2;rw[show ab xX (l,m,(l.length:Int),0,())=_ from h,ae2]
 rw[<-o9 l (pj m) inferInstance];unfold bG;cases l.findIdx? (pj m)<;>rfl
theorem ajT (m:List Bool) (hm:m.length<=1000000) (n:Int) (ls:List (List Int)) (N:ls.length<=900000000) (D: ∀l∈ls,l.length<=1000000/\dV l) (F: ∀l∈ls,l.any (pj m)=true):Dl (n,ls) m=some true:=by
 have h:=iT (f:=xZ) ls (fun l=> !l.any (pj m)) (fun k=>(ls,m,(ls.length:Int),(k:Int),())) (fun k=>Sum.inr ((k:Int),())) (Sum.inl ()) (fun k h hp=>by
  have:=D _ (ae3 h);simp only[xZ,dY (show(k:Int)<(ls.length:Int) by omega),cond_true,cond_false,au h,ab8 m hm _ this.1 this.2,hp,ae2,aH,aw (show k+1<=4611686018427387904 by omega)]) (fun k h hp=>by
  have:=D _ (ae3 h);simp only[xZ,dY (show(k:Int)<(ls.length:Int) by omega),cond_true,au h,ab8 m hm _ this.1 this.2,hp,ae2]) (by
  simp only[xZ,dN (show¬(ls.length:Int)<(ls.length:Int) by omega),cond_false])
 have J:ls.findIdx? (fun l=> !l.any (pj m))=none:=List.findIdx?_eq_none_iff.2 fun x M=>by rw[F x M];rfl
 unfold Dl O4 Pf;rw[show ab xZ ((n,ls).2,m,((n,ls).2.length:Int),0,())=_ from h,J];rfl
theorem Ri {α:Type} (p:α->Bool) (g:α->Nat) (v:Nat): ∀(l:List α) (m:List Bool),(l.foldl (fun m x=>if p x=true then m.set (g x) true else m) m).length=m.length/\
  ((l.foldl (fun m x=>if p x=true then m.set (g x) true else m) m)[v]? =some true<->m[v]? =some true\/v<m.length/\ ∃x∈l,p x=true/\g x=v)
 |[],m=>⟨rfl,⟨.inl,fun h=>h.elim id fun⟨_,_,h,_⟩=>(av6 h).elim⟩⟩
 |x::t,m=>by
  obtain⟨h1,h2⟩:=Ri p g v t (if p x=true then m.set (g x) true else m)
  rw[aw6];refine⟨by rw[h1];split<;>simp,h2.trans ?_⟩
  by_cases e:p x=true
  · rw[if_pos e,aw7,List.getElem?_set];by_cases F:g x=v
    · rw[if_pos F];constructor
      · rintro(h |⟨h,y,D,q⟩)
        · refine .inr ⟨?_,x,.head _,e,F⟩;split at h
          · omega
          · cases h
        · exact .inr ⟨h,y,.tail _ D,q⟩
      · rintro(h |⟨h,y,D,q⟩)
        · obtain⟨J,_⟩:=av7.1 h;exact .inl (by rw[if_pos (by omega)])
        · exact .inl (by rw[if_pos (by omega)])
    · rw[if_neg F];refine or_congr Iff.rfl (and_congr Iff.rfl ⟨fun⟨y,D,q⟩=>⟨y,.tail _ D,q⟩,fun⟨y,D,q⟩=>?_⟩);rcases at3.1 D with rfl |D
      · exact absurd q.2 F
      · exact⟨y,D,q⟩
  · rw[if_neg e];refine or_congr Iff.rfl (and_congr Iff.rfl ⟨fun⟨y,D,q⟩=>⟨y,.tail _ D,q⟩,fun⟨y,D,q⟩=>?_⟩);rcases at3.1 D with rfl |D
    · exact absurd q.1 e
    · exact⟨y,D,q⟩
def qH (A:List aq) (R:List al) (c:List Int):List Bool:=(bS A R c).1.foldl (fun m t=>if decide (0<cN A.length (ax A R) t)=true then m.set (cN A.length (ax A R) t - 1).toNat true else m) (c.foldl (fun m i=>m.set i.toNat true) (List.replicate (A.length+(ax A R).length) false))
theorem Em (v:Nat):(qH A R c).length=A.length+(ax A R).length/\((qH A R c)[v]? =some true<->v<A.length+(ax A R).length/\((∃i∈c,i.toNat=v)\/ ∃t∈(bS A R c).1,0<cN A.length (ax A R) t/\(cN A.length (ax A R) t - 1).toNat=v)):=by
 have O: ∀M:List Bool,(c.foldl (fun m i=>m.set i.toNat true) M).length=M.length/\((c.foldl (fun m i=>m.set i.toNat true) M)[v]? =some true<->M[v]? =some true\/v<M.length/\ ∃x∈c,true=true/\x.toNat=v):=fun M=>Ri (fun _:Int=>true) (fun i=>i.toNat) v c M;obtain⟨h1,h2⟩:=O (List.replicate (A.length+(ax A R).length) false);obtain⟨J,N⟩:=Ri (fun t=>decide (0<cN A.length (ax A R) t)) (fun t=>(cN A.length (ax A R) t - 1).toNat) v (bS A R c).1 (c.foldl (fun m i=>m.set i.toNat true) (List.replicate (A.length+(ax A R).length) false));rw[ay4] at h1 h2;rw[h1] at J N;refine⟨J,N.trans ?_⟩;rw[h2,List.getElem?_replicate];constructor
 · rintro((h |⟨h,i,D,_,e⟩) |⟨h,t,F,a,b⟩)
   · split at h<;>cases h
   · exact⟨h,.inl ⟨i,D,e⟩⟩
   · exact⟨h,.inr ⟨t,F,of_decide_eq_true a,b⟩⟩
 · rintro⟨h,⟨i,D,e⟩ |⟨t,F,a,b⟩⟩
   · exact .inl (.inr ⟨h,i,D,rfl,e⟩)
   · exact .inr ⟨h,t,F,decide_eq_true a,b⟩
theorem anx (hA:bu A) (hR:bM R) (hT:(ax A R).length<=400) (M:vw A c) (hc:c.length<=1000000):DF (ij A R) c=some (qH A R c):=by
 have hs:=hA.many;have ht:=(qi (choice:=c) hA hR hc).len hA hR;have Z:=(Em (A:=A) (R:=R) (c:=c) 0).1;have N:nN (ij A R)=some ((A.length+(ax A R).length:Nat):Int):=(FO A hA R hR).2;unfold DF;rw[N,ae2,ai ⟨rfl,by omega,by omega⟩,as1]
 have D:=wh (f:=Dp) (v0:=(c,0,A,R,ax A R,List.replicate (A.length+(ax A R).length) false,())) c (fun m i=>m.set i.toNat true) (fun _ m=>m.length=A.length+(ax A R).length) (fun k m=>(c,(k:Int),A,R,ax A R,m,())) (fun m=>(c,A,R,ax A R,m,())) (fun k hk m hm=>?_) (fun m hm=>?_) (List.replicate (A.length+(ax A R).length) false) (by rw[ay4]) rfl
 · have F:ab Dp (c,0,(ij A R).1,(ij A R).2.1,(ij A R).2.2,List.replicate (A.length+(ax A R).length) false,())=_:=D.1;rw[F];simp only[ae2,E3 hA hR hc];have U:=wh (f:=Dn) (bS A R c).1 (fun m t=>if decide (0<cN A.length (ax A R) t)=true then m.set (cN A.length (ax A R) t - 1).toNat true else m) (fun _ m=>m.length=A.length+(ax A R).length) (fun k m=>((k:Int),A,R,ax A R,(bS A R c).1,(bS A R c).2,m,())) (fun m=>(m,())) (fun k hk m hm=>?_) (fun m hm=>?_) _ D.2 rfl
   · have J:ab Dn (0,A,R,ax A R,(bS A R c).1,(bS A R c).2,c.foldl (fun m i=>m.set i.toNat true) (List.replicate (A.length+(ax A R).length) false),())=_:=U.1;rw[J];rfl
   · have hr:=Et A.length (ax A R) (bS A R c).1[k];have O:mz (A,R,ax A R) (bS A R c).1[k]=some (cN A.length (ax A R) (bS A R c).1[k]):=SX A R (ax A R) hs (by omega) _
     simp only[Dn,dY (show((k:Nat):Int)<((bS A R c).1.length:Int) by omega),cond_true,au hk,O,ae2,aH,aw (show k+1<=4611686018427387904 by omega)]
     by_cases e:0<cN A.length (ax A R) (bS A R c).1[k]
     · rw[dY e,cond_true,if_pos rfl,ai (bd (by omega)),ai ⟨by omega,by omega⟩,ae9 (show(cN A.length (ax A R) (bS A R c).1[k] - 1).toNat<m.length by omega)]
       exact⟨rfl,by rw[aw7];exact hm⟩
     · rw[dN e,cond_false,if_neg (by decide)]
       exact⟨rfl,hm⟩
   · simp only[Dn,as2,decide_false,cond_false]
 · obtain⟨j,Y,e⟩:=M _ (ae3 hk);simp only[Dp,dY (show((k:Nat):Int)<(c.length:Int) by omega),cond_true,au hk,aH,aw (show k+1<=4611686018427387904 by omega)]
   rw[e,ai ⟨by omega,by omega⟩,as1,ae9 (show j<m.length by omega)]
   exact⟨rfl,by rw[aw7];exact hm⟩
 · simp only[Dp,as2,decide_false,cond_false]
theorem l7.uniq (hA:bu A) (h:l7 A R c) {i j:Nat} (D:i<A.length) (F:j<A.length) (J:(i:Int)∈c) (M:(j:Int)∈c) (e:(A[i]).1.1=(A[j]).1.1):i=j:=by have h1:=h.name hA D F J M e;have h2:=h.name hA F D M J e.symm;omega
theorem l7.gH (hA:bu A) (h:l7 A R c) {i:Nat} (D:i<A.length) (F:(i:Int)∈c):ei A c (A[i]).1.1=(i:Int):=by
 rcases nP A c (A[i]).1.1 with⟨q,_⟩ |⟨k,hk,q,e,m⟩
 · have:=List.find?_eq_none.1 q _ F;exact absurd (Az.2 ⟨i,D,rfl,rfl⟩) this
 · rw[q,h.uniq hA D hk F m e.symm]
theorem YR (hA:bu A) (hR:bM R) (hc:c.length<=1000000) (h:l7 A R c) (v:Nat) (M:v<A.length+(ax A R).length):(qH A R c)[v]? =some true<->mS A R c v:=by
 have hs:mv (ax A R):=Kl _;rw[(Em v).2];constructor
 · rintro⟨_,⟨i,F,e⟩ |⟨t,N,p,e⟩⟩
   · obtain⟨k,hk,rfl⟩:=h.vi i F;rw[as1] at e;subst e;exact .inl ⟨hk,h.gH hA hk F,FH.1 (h.asked k hk F)⟩
   · refine .inr ?_;unfold cN at p e;rcases kX (ax A R) (fun x=>decide (x=t)) with⟨_,q⟩ |⟨j,J,_,q,D,_⟩
     · rw[q,if_pos (by decide)] at p;exact absurd p (by decide)
     · rw[q,if_neg (by omega)] at e
       have D:(ax A R)[j]=t:=of_decide_eq_true D;exact⟨j,J,by omega,by rw[D];exact N⟩
 · rintro(⟨F,q,_⟩ |⟨j,J,rfl,q⟩)
   · refine⟨M,.inl ⟨(v:Int),?_,as1 v⟩⟩;rcases nP A c (A[v]).1.1 with⟨_,D⟩ |⟨k,hk,D,_,m⟩
     · omega
     · rw[q] at D;rw[D];exact m
   · refine⟨M,.inr ⟨_,q,?_⟩⟩;rw[SJ A R j J];exact⟨by omega,by omega⟩
variable {A:List aq} {R:List al} {c:List Int}
theorem Lh {m:List Bool} {v:Nat}:m.getD v false=true<->m[v]? =some true:=by
 rw[aw8];cases m[v]? with
 |none=>simp
 |some b=>cases b<;>simp
theorem Zr (v:List Bool): ∀(l:List aq) (k:Nat),(aN (fun i (_:aq)=>if v.getD i false=true then[(i:Int)] else[]) l k).Pairwise (fun x y=>x - y<0)/\ ∀x∈aN (fun i (_:aq)=>if v.getD i false=true then[(i:Int)] else[]) l k,(k:Int)<=x
 |[],_=>⟨List.Pairwise.nil,fun x D=>(av6 D).elim⟩
 |y::t,k=>by
  obtain⟨h1,h2⟩:=Zr v t (k+1);show((if v.getD k false=true then[(k:Int)] else[])++aN _ t (k+1)).Pairwise _/\ ∀x∈(if v.getD k false=true then[(k:Int)] else[])++aN _ t (k+1),_
  split
  · refine⟨List.pairwise_cons.2 ⟨fun x D=>by have:=h2 x D;omega,h1⟩,fun x D=>?_⟩
    rcases at3.1 D with rfl |D
    · exact Int.le_refl _
    · have:=h2 x D;omega
  · exact⟨h1,fun x D=>by have:=h2 x D;omega⟩
theorem l7.ar7 (h:l7 A R c):c.Pairwise (fun x y=>x - y<0):=by rw[ax7];intro a b D F M;obtain⟨k,hk,e⟩:=h.vi _ (ae3 D);obtain⟨j,N,J⟩:=h.vi _ (ae3 F);have:=h.lt b F a M D k hk e j N J;omega
theorem ajK (hA:bu A) (hR:bM R) (hc:c.length<=1000000) (h:l7 A R c):tT A R (qH A R c)=c:=by
 have e:eR A (qH A R c)=c:=by
  refine J7 (c:=fun x y:Int=>x - y) ⟨fun x y=>by omega,fun x y z h1 h2=>by omega⟩ (Zr _ A 0).1 h.ar7 fun x=>?_
  rw[SK];constructor
  · rintro⟨k,hk,rfl,q⟩;have q:=(YR hA hR hc h k (by omega)).1 (Lh.1 q)
    obtain⟨_,q,_⟩:=(tE hk).1 q;rcases nP A c (A[k]).1.1 with⟨_,F⟩ |⟨j,J,F,_,m⟩
    · omega
    · rw[q] at F;rw[F];exact m
  · intro D;obtain⟨k,hk,rfl⟩:=h.vi x D;exact⟨k,hk,rfl,Lh.2 ((Em k).2.2 ⟨by omega,.inl ⟨_,D,as1 k⟩⟩)⟩
 unfold tT;rw[e];refine List.filter_eq_self.2 fun x D=>?_;obtain⟨k,hk,rfl⟩:=h.vi x D;rw[Tg hk];exact(qD _ _).2 (h.asked k hk D)
theorem anw (hA:bu A) (hR:bM R) (hc:c.length<=1000000) (h:l7 A R c) {x:Int} (J:Nl A R c x):pj (qH A R c) x=true:=by
 have N:=(Em (A:=A) (R:=R) (c:=c) 0).1;have D:=YR hA hR hc h;unfold pj;rcases J with⟨hp,q⟩ |⟨hp,q⟩
 · have F:(x - 1).toNat<A.length+(ax A R).length:=by
     rcases q with⟨q,_⟩ |⟨j,M,e,_⟩<;>omega
   rw[if_neg (by omega),show x.natAbs - 1=(x - 1).toNat by omega,Lh.2 ((D _ F).2 q),dY hp];rfl
 · have:(qH A R c).getD (x.natAbs - 1) false=false:=by
     rw[az6];intro z;rw[show x.natAbs - 1=(-x - 1).toNat by omega] at z
     have z:=Lh.1 z;obtain⟨O,_⟩:=av7.1 z;exact q ((D _ (by omega)).1 z)
   rw[if_neg (by omega),this,dN (show¬0<x by omega)];rfl
theorem ak7 (hA:bu A) (hR:bM R) (hT:(ax A R).length<=400) (l:List (List Int)) (N:l.length=2) (h: ∀c∈l,c.length<=1000):
  ab vA (bn A R,l,0,A.map bN,R.map aO,A,R,A,R,ax A R,())=some (.inl ()):=by
 have hs:=hA.many;have O:=FO A hA R hR;obtain⟨ls,f1,f2,f3⟩:=alL hA hR hT;have hf:=Yc A hA R hR ls f1 (fun x F=>XH A hA R hR hT x (f2 x F)) f3;have main:=rQ (f:=vA) l.length (fun k=>(bn A R,l,(k:Int),A.map bN,R.map aO,A,R,A,R,ax A R,())) (fun _=>True) (fun _=>False) (out:=.inl ()) rfl (fun k hk _=>?_) ?_
 · rcases main with⟨_,e⟩ |⟨_,q,_⟩
   · exact e
   · exact q.elim
 · have hc:=h _ (ae3 hk);have hc:l[k].length<=1000000:=by omega
   obtain⟨w,hw,D⟩:=aoE hA hR hc;refine .inl ⟨trivial,?_⟩;simp only[vA,dY (show((k:Nat):Int)<2 by omega),cond_true,au hk,hw,ae2,aH,aw (show k+1<=4611686018427387904 by omega)]
   by_cases e:w=0
   · have D:=D e;have hm:=anx hA hR hT D.vi hc;have hlen:=(Em (A:=A) (R:=R) (c:=l[k]) 0).1
     have M:Dl (((A.length+(ax A R).length:Nat):Int),ls.map (·.2)) (qH A R l[k])=some true:=by
      refine ajT _ (by omega) _ _ (by rw[ae4];omega) (fun x F=>?_) fun x F=>?_
      · obtain⟨y,J,rfl⟩:=au0.1 F;have:=ZI A hs R hT y (f2 y J);exact⟨by omega,this.2⟩
      · obtain⟨y,J,rfl⟩:=au0.1 F;obtain⟨z,U,Y⟩:=ajZ hA hR hc D.aJ (f2 y J);exact ax9.2 ⟨z,U,anw hA hR hc D Y⟩
     have hm:DF (A,R,ax A R) l[k]=some (qH A R l[k]):=hm;rw[dY e];simp only[ae8,cond_false,hm,ae2,O.1,hf,M,Yh hA hR,ajK hA hR hc D,Fh l[k] (by omega)]
   · rw[dN e];rfl
 · simp only[vA,N];rfl
theorem ahS (x) (D:List Int):Jv x D=some true:=by
 obtain⟨⟨⟨p,t,Z⟩,m⟩,rfl⟩: ∃y,y=x:=⟨x,rfl⟩;have J:=ET;unfold Jv;rcases RF p t Z m with⟨A,R,hA,hR,hT,_,F⟩ |F
 · simp only[F,ae2,J,ae8,cond_false];by_cases e:50<D.length
   · rw[dY (show(50:Int)<(D.length:Int) by omega)];rfl
   · rw[dN (show¬(50:Int)<(D.length:Int) by omega),cond_false]
     obtain⟨r,ok,k,hs,O,_⟩:=aou hA hR
     have w:=fun(y:List Int) (Y:y.length<=1000)=>ak7 hA hR hT [D,y] rfl fun c hc=>by
      rcases at3.1 hc with rfl |hc
      · omega
      · rw[at5.1 hc];exact Y
     have M:=w [] (ae6 _);have w2:=w r O;have c1:(ij A R).1=A:=rfl;have c2:(ij A R).2.1=R:=rfl;have N:(ij A R).2.2=ax A R:=rfl;simp only[hs,ae2,c1,c2,N];cases k with
     |false=>simp only[as4,cond_true,M,ae2]
     |true=>
      cases ok with
      |false=>simp only[ae8,as4,cond_false,cond_true,M,ae2]
      |true=>simp only[ae8,cond_false,w2,ae2]
 · obtain⟨o,U,b,rfl⟩:=jj F;obtain⟨b1,b2,b3⟩:=b;simp only[U,ae2,J,ae8,cond_false]
abbrev GY:Ty:=.pair jB .bool
abbrev vo:List (Nat×SO):=[(1000,.var 275 [Cg,BE,.own 1003,.own 1004,.own 1005,.own 1006]),(1002,dI),(1003,dJ),(1004,sU),(1005,jw),(1006,.row 372 GY)]
abbrev ad3:SO:=.var 134 [bj,bj,bj,bj,sP,iD,iD,.v (.sl s8)]
abbrev rk:SO:=.row 84 jB
abbrev Ov:List (Nat×SO):=[(2,.var 182 [.own 1001,BE]),(4,.var 182 pY),(1001,rk),xu]
abbrev pZ:List (Nat×SO):=[(1000,.var 187 [.v xT,iD,cI])]
abbrev Ox:List (Nat×SO):=[(2,.var 182 [.own 30,.own 20]),(4,.var 182 pY),(20,jC),(30,rk)]
abbrev uZ:SS:=.c (.v (.sl ml))
abbrev u5:SO:=.var 182 [s7,iD]
abbrev Om:Nat×SS:=(1,.fn 65 [] [NW,.v (.ptr Cr)])
abbrev sW:SS:=.c (.v (.sl .bool))
abbrev rq:Nat×SS:=(7,.c (.ptr 7 0))
abbrev xF:Sh:=.v (.ptr (.sl .bool))
abbrev aeb:SO:=.var 275 [Cg,.own 1040,.own 612,.own 613,.own 614,.own 615]
abbrev aeS:List (Nat×SO):=[(12,aeb),(612,dJ),(613,sU),(614,jw),(615,.row 372 GY),(1040,dI)]
abbrev Oo:Nat×SO:=(1000,.st 187 (.pair xT (.pair rb eF)))
abbrev Oi:Shape:=⟨(kF::(3,eV)::(4,aW)::eB),[]⟩
abbrev aer:bE:={cut:=[(.normal,⟨[gy,pQ,N5],[(9,u5)]⟩),(.ret,Hx)]}
abbrev aeE:List (Nat×Nat):=[(1000,1000),(1002,1002),(1003,1003),(1004,1004),(1005,1005),(1006,1006)]
abbrev ad6:List (Nat×SO):=[(6,.var 182 pY),(7,.var 182 [.own 211,.own 11]),(11,jC),(211,rk)]
abbrev ad0:Shape:=⟨[(0,re),(1,jx),(2,.c (.own 1040))],[(1040,dI)]⟩
abbrev aej:List (Nat×Nat):=[(1000,12),(1002,1040),(1003,612),(1004,613),(1005,614),(1006,615)]
abbrev Vd:Shape:=⟨[gy,nt,pQ],[]⟩
abbrev U1:bE:={cut:=[vd,(.ret,Hx)]}
abbrev N2:List (Nat×SS):=(nt::bR::ga::eB)
abbrev adP:Nat×bE:=(58,{loop:=some ⟨(kF::(3,eV)::fe),[]⟩})
abbrev N6:Nat×SO:=(12,.row 4 .bool)
abbrev adC:Nat×bE:=(29,{cut:=[(.normal,⟨[(3,eV)],[]⟩)]})
abbrev adA:Shape:=⟨[(0,uZ),(1,.fn 76 [] [xF])],[]⟩
abbrev adz:Shape:=⟨[(4,.c (.own 1000))],[(1000,rk)]⟩
def ang:FS:=mkG [] [] 331 ⟨[nr,(1,.st vv)],[]⟩ [(false,⟨[(3000004,.st vv)],[]⟩)] fun x=>Mg x.1 x.2.1
def aku:FS:=mkG [WO,ang] [] 232 ⟨[(0,.st BN),(1,.st vv)],[]⟩ di fun x=>Lt x.1 x.2.1
def YD:FS:=mkG [aku] [(13,Ho),(26,{loop:=some ⟨((0,B')::cK::eB),[(3,pX)]⟩}),(3365,{cut:=[(.normal,⟨[(0,B'),cK,(5,aW),(6,gX),(7,gX)],[(3,pX)]⟩)]}),(6730,{loop:=some ⟨((0,B')::cK::(5,aW)::(6,gX)::(7,gX)::nn),[(3,pX)]⟩})] 146 ⟨[(0,B'),(1,.st vv)],[]⟩ di fun x=>FV x.1 x.2.1
def JZ:FS:=mkG [] [lI,(26,{loop:=some ⟨(bR::cK::eB),[(2,kO),Hh]⟩})] 33 ⟨(sN::B0),[]⟩ dA fun x=>mz x.1 x.2.1
def K3:FS:=mkG [] [lI,(26,{loop:=some ⟨(dy::bR::eB),[(2,ad3)]⟩})] 72 ⟨[(0,.st xU),dy],[]⟩ dA fun x=>tM x.1 x.2.1
def PZ:FS:=mkG [] [] 15 ⟨[sN],[]⟩ rm fun x=>nN x.1
def Kp:FS:=mkHh [Qq,PS,YA] [(254,{kf:=[(0,.q [6]),(2,.q [8]),(3,rl),(5,.u [4] false)]}),(1012,{kf:=[(0,.q [6]),(1,.q [8]),(2,rl),(4,.u [4] false)]})] 24 ⟨[B4],[]⟩ [(false,⟨[Vr,(3,uP),(3000004,Ou),(5,xx)],[]⟩),(false,⟨[Vr,(3,.c .np),(3000004,Ou),(5,nx)],[]⟩)] (id) (id) (fun _=>rfl) (fun x=>oW x.1)
def an4:FS:=mkG [] [] 136 GJ rm fun x=>AE x.1
def Yg:FS:=mkG [an4] [] 62 ⟨[nr,(1,sW)],[]⟩ di fun x=>wk x.1 x.2.1
def agO:FS:=mkG [] [lI,(26,{loop:=some ⟨(mm::cK::gR),[(3,.var 81 [bj,bj])]⟩})] 392 UY dA fun x=>PO x.1 x.2.1
def agf:FS:=mkG [agO] [] 327 UY di fun x=>IZ x.1 x.2.1
def V6:FS:=mkHh [agf,yh] [(3,{cut:=[(.normal,⟨[],vo⟩)]}),(6,{loop:=some ⟨(cm::(9,jx)::sT),vo⟩}),(3276,{rd:=[32]}),(3279,{cut:=[(.normal,⟨(cm::(9,jx)::sT),vo⟩)]}),(6558,{loop:=some ⟨[cm,eM,(9,jx),lA,sK,(61,eu),(62,aW),(63,aW)],((5,.var 165 [bj,sR,oN])::vo)⟩}),(1678950,{rd:=[77]})] 225 ⟨[cm,(1,jx)],vo⟩ [(false,⟨[],vo⟩)] (fun o=>(o.1,o.2.1,o.2.2.1,o.2.2.2.1,o.2.2.2.2.1,o.2.2.2.2.2.1)) (fun r=>(r.1,r.2.1,r.2.2.1,r.2.2.2.1,r.2.2.2.2.1,r.2.2.2.2.2,())) (fun _=>rfl) (fun x=>vz x.1 x.2.1 x.2.2.1 x.2.2.2.1 x.2.2.2.2.1 x.2.2.2.2.2.1 x.2.2.2.2.2.2.1)
def aiA:FS:=mkG [] [(13,U1),(26,{loop:=some ⟨((0,re)::(2,dT)::(9,eV)::sT),[]⟩})] 328 ⟨((0,re)::gz::js),[]⟩ pT fun x=>Ko x.1 x.2.1 x.2.2.1
def ago:FS:=mkHh [V6,Jr,aiA] [(6,{rd:=[17]}),(238,{ow:=[63],ps:=[(63,aeE)]}),(1918,{ow:=[46],ps:=[(46,aeE)]})] 226 ⟨[cm,(1,.st GY)],vo⟩ [(false,⟨[],vo⟩)] (fun o=>(o.1,o.2.1,o.2.2.1,o.2.2.2.1,o.2.2.2.2.1,o.2.2.2.2.2.1)) (fun r=>(r.1,r.2.1,r.2.2.1,r.2.2.2.1,r.2.2.2.2.1,r.2.2.2.2.2,())) (fun _=>rfl) (fun x=>I4 x.1 x.2.1 x.2.2.1 x.2.2.2.1 x.2.2.2.2.1 x.2.2.2.2.2.1 x.2.2.2.2.2.2.1)
def aiz:FS:=mkHh [V6,ago] [(14,{pre:=[.da 12 2 612 (.row [] 9 .str []),.da 12 3 613 (.row [] 81 jB []),.da 12 4 614 (.row [] 165 oL []),.da 12 5 615 (.row [] 372 GY [])],ow:=[15],ps:=[(15,aej)]}),(61,{cut:=[(.normal,⟨[(7,GU)],aeS⟩)]}),(122,{loop:=some ⟨((7,GU)::nn),aeS⟩}),(1956,{ow:=[33],ps:=[(33,aej)]})] 137 ad0 [(false,⟨[(6,GU)],[(1040,dI),(12,aeb),(615,.row 372 GY),(614,jw),(613,sU),(612,dJ)]⟩)] (fun o=>(o.1,o.2.1,o.2.2.1,o.2.2.2.1,o.2.2.2.2.1,o.2.2.2.2.2.1)) (fun r=>(r.1,r.2.1,r.2.2.1,r.2.2.2.1,r.2.2.2.2.1,r.2.2.2.2.2,())) (fun _=>rfl) (fun x=>Kn x.1 x.2.1 x.2.2.1)
def ai3:FS:=mkHh [aiz] [(6,{ow:=[10],ps:=[(10,[(12,10),(612,810),(613,610),(614,410),(615,210),(1040,1040)])]}),(7,{pre:=[.ba 810,.ba 610]})] 63 ad0 [(false,⟨[(3000006,.st (.pair sQ sO))],[(1040,dI)]⟩)] (fun o=>(o.1,o.2.1)) (fun r=>(r.1,r.2,())) (fun _=>rfl) (fun x=>KL x.1 x.2.1 x.2.2.1)
def V3:FS:=mkG [yh] [] 65 ⟨[nr,(1,.c NW),(2,.c (.v (.ptr Cr)))],[]⟩ di fun x=>CO x.1 x.2.1 x.2.2.1
def afp:FS:=mkG [V3] [lI,(26,{loop:=some ⟨(kF::Om::gR),[]⟩})] 138 ⟨[kF,Om],[]⟩ dA fun x=>O9 x.1 x.2.1 x.2.2.1
def afl:FS:=mkG [V3,afp] [(6,{rd:=[10]}),adO,(122,{loop:=some ⟨(rf::Om::BF),xy⟩}),(126,{cn:=[(2,[5000])]})] 64 ⟨[rf,Om],xy⟩ [(false,⟨[(4,Hm)],xy⟩)] fun x=>Iq x.1 x.2.1 x.2.2.1
def Wc:FS:=mkG [ai3,afl,Yg] [(61,{cut:=[(.normal,⟨[bR,B1],[(2,.var 40 [.v Cr]),(25,dI)]⟩)]}),(62,{ow:=[36],kf:=[(0,kG),(2,bh),(3,bh),(4,kG),(6,bh),(7,bh),(9,.u [25] false),(11,.n 7),(12,.u [7] false)],ps:=[(36,[(1040,25)])]}),(122,{pre:=[.dz 5 25 (.row [] 3 eF [])],loop:=some ⟨((1,sW)::bR::B1::BW),[(2,.var 40 [.v Cr]),(25,dI)]⟩}),(126,{un:=[.s 5],pre:=[.vk 7 sQ,.vk 2 Cr],cn:=[(2,[25])],ps:=[(40,[(5000,25)])]}),(127,{pre:=[.ba 25]})] 25 ⟨[gP,(1,sW)],[]⟩ B9 fun x=>Dd x.1 x.2.1
def Xl:FS:=mkG [] [(13,{cut:=[(.normal,⟨[cE,cK],[Hh,(1000,rk)]⟩),(.ret,adz)]}),(26,{loop:=some ⟨(cE::cK::eB),[Hh,(1000,rk)]⟩})] 227 ⟨(cE::B0),[(1000,rk)]⟩ [(false,adz)] fun x=>vX x.1 x.2.1
def agB:FS:=mkHh [Xl] [(13,{cut:=[(.normal,⟨[bR,ga],Ox⟩)]}),(26,{pre:=[.da 2 0 30 (.row [] 84 jB []),.da 2 1 20 (.row [] 191 kN [])],loop:=some ⟨N2,Ox⟩}),(1682,{ow:=[30],kf:=[(0,kG),(1,kG),(4,bh),(5,bh),(6,bh),(8,.u [30] false),(9,kG),(10,rl)],ps:=[(30,uN)]}),(3367,{cut:=[(.normal,⟨N2,Ox⟩)]}),(6734,{loop:=some ⟨(nt::bR::ga::BF),Ox⟩}),(107748,{ow:=[58],kf:=[(0,kG),(1,kG),(4,bh),(5,bh),(6,bh),ri,(10,bh),(11,bh),(13,bh),(14,bh),(16,.u [30] false),(17,kG),(18,rl)],ps:=[(58,uN)]})] 140 ⟨[(0,.agg pY),nt],[]⟩ [(false,⟨[(3000004,.agg [.own 30,.own 20])],[(20,jC),(30,rk)]⟩)] (fun o=>(o.1,o.2.1)) (fun r=>(r.1,r.2,())) (fun _=>rfl) (fun x=>Jk x.1)
def DW:FS:=mkG [] [(13,U1),(26,{loop:=some ⟨(gy::gz::(2,dT)::iz),[]⟩})] 70 ⟨(gy::gz::js),[]⟩ pT fun x=>qj x.1 x.2.1 x.2.2.1
def alD:FS:=mkG [DW,K3] [] 141 ⟨[gy,gz,(2,.st jB)],[]⟩ [(false,⟨[(6,.c iD)],[]⟩)] fun x=>LR x.1 x.2.1 x.2.2.1
def ahv:FS:=mkHh [Xl] [(13,{cut:=[(.normal,⟨[bR,ga],Ov⟩)]}),(26,{loop:=some ⟨N2,Ov⟩}),(1682,{ow:=[30],kf:=[(0,kG),(1,kG),(4,bh),(5,bh),(6,bh),(8,GX),(9,kG),(10,rl)],ps:=[(30,[(1000,1001)])]}),(3367,{cut:=[(.normal,⟨N2,Ov⟩)]}),(6734,{loop:=some ⟨(nt::bR::ga::BF),Ov⟩}),(107748,{ow:=[58],kf:=[(0,kG),(1,kG),(4,bh),(5,bh),(6,bh),ri,(10,bh),(11,bh),(13,bh),(14,bh),(16,GX),(17,kG),(18,rl)],ps:=[(58,[(1000,1001)])]})] 140 ⟨[(0,.agg [.own 1001,BE]),nt],[(1001,rk),xu]⟩ [(false,⟨[(3000004,.agg [.own 1001,BE])],[(1001,rk),xu]⟩)] (fun o=>(o.1,o.2.1)) (fun r=>(r.1,r.2,())) (fun _=>rfl) (fun x=>yK x.1 x.2.1 x.2.2.1)
def D9:FS:=mkG [agB,ahv,alD] [(6,{ow:=[11],ps:=[(11,[(20,11),(30,211)])]}),(29,{cut:=[(.normal,⟨[fI,rq],ad6⟩)]}),(31,{pre:=[.ba 211,.ba 11]}),(58,{loop:=some ⟨(gy::pQ::fI::rq::nn),ad6⟩}),(932,{ow:=[28],kf:=[(0,.q [7]),(3,.q [7]),(4,.q [7]),(6,.q [211]),(7,.q [211]),(9,.u [211,11] false),(10,.u [7] false)],ps:=[(28,[(1001,211),(1002,11)])]})] 67 Vd [(false,⟨[(3000006,.st (.pair sO rb))],[]⟩)] fun x=>tF x.1 x.2.1 x.2.2.1
def PU:FS:=mkG [] [(29,{cut:=[(.normal,⟨[GZ],[(27,dJ)]⟩)]}),(31,{pre:=[.ba 27]}),(58,{pre:=[.dz 3 27 (.row [] 9 .str [])],loop:=some ⟨(ru::GZ::fe),[(1,u5),(27,dJ)]⟩})] 68 ⟨[(0,.st (.pair sO rb))],[]⟩ [(false,⟨uO,[]⟩)] fun x=>yN x.1
def Rm:FS:=mkG [Eh,YD,QE] [] 71 kH di fun x=>wq x.1 x.2.1
def W0:FS:=mkG [DW,Rm] [(13,Ho),(26,{loop:=some ⟨(gy::gz::eB),[]⟩}),(1683,{cut:=[(.normal,⟨(gy::gz::eB),[]⟩),(.ret,⟨[(4,xx)],[]⟩)]}),(3366,{loop:=some ⟨(gy::gz::(5,aW)::(6,.c iD)::iz),[]⟩})] 73 ⟨[gy,gz],[]⟩ di fun x=>Ez x.1 x.2.1
def aij:FS:=mkHh [W0,DW,K3,Rm,D9] [(29,{cut:=[(.normal,⟨[cm,gz,eM],((5,u5)::pZ)⟩),(.ret,⟨[(4,xx)],pZ⟩)]}),(58,{loop:=some ⟨(cm::gz::eM::mg),((5,u5)::pZ)⟩}),(61,{cut:=[(.normal,⟨[cm,gz],pZ⟩),(.ret,⟨[(4,xx)],pZ⟩)]}),(122,{loop:=some ⟨(cm::gz::eM::nn),((5,u5)::pZ)⟩})] 142 ⟨[cm,gz],[Oo]⟩ [(false,⟨ra,[Oo]⟩)] (fun o=>(o.1,o.2.1)) (fun r=>(r.1,r.2,())) (fun _=>rfl) (fun x=>Kh x.1 x.2.1)
def ajt:FS:=mkG [] [adC,adP,(116,{post:=[.ba 35]}),(3730,{cut:=[(.normal,Oi)]}),(7460,{loop:=some Oi})] 143 NX [(false,⟨[pQ],[]⟩)] fun x=>K2 x.1
def ah4:FS:=mkRec [aij,DW,D9,ajt,PU] [(28,Vc),(253,{cut:=[(.normal,⟨[cm,gz,(7,dT)],pZ⟩)]}),(506,{loop:=some ⟨(cm::gz::(6,eu)::(7,dT)::nn),pZ⟩}),(1021,{cut:=[(.normal,⟨[],pZ⟩),(.ret,⟨[(4,eV),(5,xx)],pZ⟩)]}),(2042,{loop:=some ⟨[cm,gz,(7,dT),nk],pZ⟩}),(130706,{ow:=[94],gx:=[(7,[.ba 90])],ps:=[(94,cF)]})] 69 ⟨[cm,gz],[Oo]⟩ [(false,⟨[(4,eV),ni],[Oo]⟩)] (fun o=>(o.1,o.2.1,o.2.2.1)) (fun r=>(r.1,r.2.1,r.2.2,())) (fun _=>rfl) nL (by kernel_rfl) (fun rc ok x=>by kernel_rfl)
def akf:FS:=mkHh [ah4] [(14,{ow:=[19],ps:=[(19,[(1000,16)])]})] 27 ⟨[gy,nt,dp],[]⟩ [(false,⟨[(6,eV),(7,gX),(8,gX)],[]⟩)] (fun o=>(o.1,o.2.1,o.2.2.1)) (fun r=>(r.1,r.2.1,r.2.2,())) (fun _=>rfl) (fun x=>Lk x.1 x.2.1 x.2.2.1)
def am8:FS:=mkG [qy,W0,DW,K3,Rm,D9,PU] [(13,{cut:=[(.normal,Vd),(.ret,Hx)]}),(26,{loop:=some ⟨(gy::nt::pQ::iz),[]⟩}),(61,aer),(122,{loop:=some ⟨[gy,pQ,N5,lA],[(9,u5)]⟩}),(125,aer),(250,{loop:=some ⟨[gy,pQ,N5,sL],[(9,u5)]⟩}),(1021,U1),(2042,{loop:=some ⟨[gy,pQ,(14,eu),(15,aW)],[]⟩})] 28 Vd pT fun x=>Mc x.1 x.2.1 x.2.2.1
def ahK:FS:=mkG [D9,JZ,PZ] [(29,{cut:=[(.normal,⟨[gz,bR,sX],[(2,kO),N6]⟩)]}),(58,{loop:=some ⟨(gz::bR::sX::mg),[(2,kO),N6]⟩}),(125,{cut:=[(.normal,⟨[sX],[N6]⟩)]}),(127,{pre:=[.ba 12]}),(250,{loop:=some ⟨(bR::sX::rq::nn),[(2,kO),(7,u5),N6]⟩})] 29 ⟨[sN,gz],[]⟩ [(false,⟨[(4,sW)],[]⟩)] fun x=>DF x.1 x.2.1
def af2:FS:=mkG [Yg] [] 78 ⟨[nr,(1,.c xF)],[]⟩ [(false,⟨iA,[]⟩)] fun x=>IK x.1 x.2.1
def afg:FS:=mkG [af2] [lI,(26,{loop:=some ⟨(kF::(1,.fn 78 [] [xF])::gR),[]⟩})] 138 ⟨[kF,(1,.fn 78 [] [xF])],[]⟩ dA fun x=>O2 x.1 x.2.1
def afb:FS:=mkG [afg] [] 77 ⟨[kF,(1,.fn 78 [] [xF])],[]⟩ di fun x=>OZ x.1 x.2.1
def agd:FS:=mkG [afb] [] 76 ⟨[kF,(1,.c xF)],[]⟩ [(false,⟨iA,[]⟩)] fun x=>IX x.1 x.2.1
def afs:FS:=mkG [agd] [lI,(26,{loop:=some ⟨((0,uZ)::(1,.fn 76 [] [xF])::gR),[]⟩})] 147 adA dA fun x=>Pf x.1 x.2.1
def afj:FS:=mkG [afs] [] 75 adA di fun x=>O4 x.1 x.2.1
def ag5:FS:=mkG [afj] [(6,{rd:=[8]})] 30 ⟨[(0,.st (.pair eF (.sl ml))),(1,sW)],[]⟩ di fun x=>Dl x.1 x.2.1
def Wf:FS:=mkG [ag5,Wc,PB,yz,Kp,DQ,zB,akf,am8,ahK] [(509,Hr),(1018,{loop:=some ⟨[eM,(6,uP),rq,(12,uZ),pR],[(5,.var 32 [Cg,.v pS,.v xT,iD]),(7,kO)]⟩})] 6 ⟨[B4,gz],[]⟩ di fun x=>Jv x.1 x.2.1
section
open Go.WideShapes
theorem RU {t:Ty} {R:World->List Value->den t->Prop} (hR: ∀w cs x,R w cs x->TR (fun _ _=>False) w t (fun i v=>cs[i]? =some v) x) {w:World} {v:Value} {l:List (den t)} (h:RowOf (wid t) R w v l):CR ⟨fun _=>undef,fun b _=>b<w.heap.size⟩ eU w v (.v (.sl t) l):=by
 rcases h with⟨a,cap,rfl,rfl,_⟩ |⟨b,off,cap,rfl,h1,h2,M,N⟩
 · exact⟨rfl,a,cap,rfl,.inl rfl⟩
 · refine⟨rfl,_,cap,rfl,.inr ⟨h1,h2,b,off,rfl,fun i x J=>?_⟩⟩;have O:=(av7.1 J).1;obtain⟨cs,hc,F⟩:=N i O;have e:l[i]=x:=(av7.1 J).2;rw[e] at F;refine TR.mono (fun _ _ _ q=>q.elim) t (fun j v D=>⟨M,?_⟩) (hR w cs x F);have:=hc.2 j (by have:=(av7.1 D).1;rw[hc.1] at this;exact this)
   rw[<-D,<-this,Nat.add_assoc]
def IntsC (w:World) (cs:List Value) (x:Int):Prop:=cs=[.int .i64 x]
theorem anG {w:World} {v:Value} {l:List Int} (h:RowOf 1 IntsC w v l):CR ⟨fun _=>undef,fun b _=>b<w.heap.size⟩ eU w v (.v (.sl (.int .i64)) l):=RU (t:=.int .i64) (fun w cs x h=>by rw[show cs=_ from h];rfl) h
section
variable {H:Type} {enc:TypeId×Value->H} {W:World} {base:Nat} {sp:Nat->Bool} {held:Bool}
theorem intsC_open' (m:Nat) (cs:List Value) (y:DataW H×List MemPlace) (h:DataW.trod enc Tryz.prog W base sp held m 3 cs=some y): ∃x,IntsC W cs x:=by obtain⟨s,e,_⟩:=DataW.trod_int Tryz.underlying3 h;exact⟨s,e⟩
theorem case_open {cs:Array Value} {d:DataW H} {ps:List MemPlace} (h:DataW.Trod enc Tryz.prog W base sp held 26 (.agg cs) d ps):
  ∃(p t m:ByteArray) (J:Value) (U:List (List UInt8)),cs= #[.string p,.string t,J,.string m]/\RowOf 1 StrC W J U:=by
 obtain⟨m,hm⟩:=h;obtain⟨_,_,_,O,F,_,hf⟩:=DataW.trod_struct Tryz.underlying26 hm;obtain⟨l⟩:=cs;have M:l.length=4:=(show l.length=_ from F).trans ach
 obtain⟨a0,D,a2,a3,rfl⟩: ∃a0 D a2 a3,l=[a0,D,a2,a3]:=by
  clear hm F O hf
  match l,M with
  |[a0,D,a2,a3],_=>exact⟨a0,D,a2,a3,rfl⟩
 obtain⟨p,t,m,l,rfl,rfl,rfl,N⟩:=Yj hm;exact⟨p,t,m,a2,l,rfl,N⟩
end
end
section
open Go.WideShapes
theorem encodeWhole_walk (p t m:ByteArray) (M:List (List UInt8)) (D:Value) (J:Value) (l:List (Int)) (w:World) (hr:RowOf 1 StrC w D M) (Y:RowOf 1 IntsC w J l) (ht:TabOk w.heap[tabB]?):
  Calls Tryz.prog 6 #[.agg #[.string p,.string t,D,.string m],J] w fun e w'=>e=.returned (.bool true)/\Below w.heap.size w w':=by
 have U:Wf.F _ (((p.data.toList,t.data.toList,M),m.data.toList),l,()) some=some (true,()):=by show(Jv _ _).bind _=_;rw[ahS _ _];rfl
 obtain⟨o,h1,h2⟩:=Wf.ok _ _ _ _ U;have N:=(Option.some.inj h1);subst N;have O:fo Tryz.prog 6 [.agg [.v .str p.data.toList,.v .str t.data.toList,.v (.sl .str) M,.v .str m.data.toList],.c (.v (.sl (.int .i64)) l)] [] (.ret (.c (.v .bool true)) []):=h2;refine(O.run (A:=fun b _=>b<w.heap.size) (w:=w) (vals:=[.agg #[.string p,.string t,D,.string m],J]) (fun _ _ q=>q) ht (.cons ⟨[.string p,.string t,D,.string m],rfl,.cons (jH p) (.cons (jH t) (.cons (EW hr) (.cons (jH m) .nil)))⟩ (.cons (anG Y) .nil))).mono ?_;rintro e w' ⟨x,c',rfl,Z,hx⟩;exact⟨by rw[sc hx (v:=.bool true) rfl],Z.below⟩
end
end
end Go.Proofs.YtejhifnjgoclpaaGreatDoor.Fx
