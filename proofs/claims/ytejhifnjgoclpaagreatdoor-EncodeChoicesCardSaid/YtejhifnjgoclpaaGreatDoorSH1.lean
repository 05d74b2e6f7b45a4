/- Parts of the proofs, put together by a program. -/
import Derived.Test.YtejhifnjgoclpaaGreatDoorS30
set_option linter.unusedVariables false
set_option linter.unusedSimpArgs false
open Option renaming bind_some->ae2,map_some->av9
open List renaming getElem_mem->ae3,length_map->ae4,getElem?_eq_getElem->ae9,length_append->as0,mem_append->as3,append_nil->at0,mem_cons->at3,map_append->at4,mem_singleton->at5,append_assoc->at8,getElem_map->au5,not_mem_nil->av6,getElem?_eq_some_iff->av7,foldl_cons->aw6,getD_eq_getElem?_getD->aw8,any_eq_true->ax9,getElem?_eq_none->ay2,mem_filter->ay8
open Nat renaming le_refl->ae5,zero_le->ae6
open Bool renaming not_true->ae8,not_false->as4,eq_false_or_eq_true->av8
open Int renaming toNat_natCast->as1,lt_irrefl->as2
namespace Go.Proofs.YtejhifnjgoclpaaGreatDoor
open Go.RowKit Go.ChangeShapes Go.WideShapes Go.Deep
theorem RowOf.shape {α:Type} {n:Nat} {R:World->List Value->α->Prop} {w:World} {v:Value} {l:List α} (h:RowOf n R w v l): ∃a cap,v=.slice a l.length cap:=by
 rcases h with⟨a,cap,rfl,rfl,_⟩ |⟨b,off,cap,rfl,_⟩
 · exact⟨_,_,rfl⟩
 · exact⟨_,_,rfl⟩
section
variable {H:Type} {enc:TypeId×Value->H} {P:Program} {w:World} {base:Nat} {spare:Nat->Bool} {held:Bool}
theorem rowOf_open {α:Type} [Inhabited α] {R:World->List Value->α->Prop} {t e:TypeId} {n:Nat} {a:Option Addr} {len cap:Nat} {d:DataW H} {p:List MemPlace} (M:P.underlying t=some (.slice e)) (hC:P.cellsOf e=n) (J:0<n)
  (hR: ∀m cs y,DataW.trod enc P w base spare held m e cs=some y-> ∃x:α,R w cs x)
  (h:DataW.Trod enc P w base spare held t (.slice a len cap) d p): ∃l:List α,RowOf n R w (.slice a len cap) l/\l.length=len:=by
 obtain⟨fuel,hf⟩:=h;obtain⟨v,l,F,D⟩:=Xk M hC J hR hf;simp [Value.cells] at F;subst F;obtain⟨N,O,he⟩:=D.shape;simp only[Value.slice.injEq] at he;exact⟨l,D,he.2.1.symm⟩
end
end Go.Proofs.YtejhifnjgoclpaaGreatDoor
namespace Go.Proofs.YtejhifnjgoclpaaGreatDoor.Fx
open Go.RowKit
set_option maxRecDepth 1000000
noncomputable section
abbrev rD:=List (iw×Bool)
abbrev gW:=List Bool
abbrev NM:=eE×aA×aD×aS×bF×rD×Unit
abbrev Bz:=aS×aK×Unit
abbrev ads:=bK×aK×aS×gV
abbrev NO:=Int×ads
abbrev adb:=Option (eE×aA×aD×aS×bF×rD)
abbrev adi:=eE×aD×aS×bF×rD×gV
def Ey:Lp (ae×Int×ae×ae×ae×ae×Bool×aK×aK×oK×Unit) jr:=fun(F,i,M,N,O,U,Y,Z,ah,D,_)=>bif decide (i<(D.length:Int)) then(ag D i).bind fun an=>bif decide (an.1=F) then some (.inr (.inr (i,()))) else J (aa .i64 (i+1))<|some (.inl (F,(i+1),M,N,O,U,Y,Z,ah,D,())) else some (.inr (.inl (())))
def tM (e:xR) (s:ae):bH:=(ab Ey (s,0,e.1,e.2.1,e.2.2.1,e.2.2.2.1,e.2.2.2.2.1,e.2.2.2.2.2.1,e.2.2.2.2.2.2.1,e.2.2.2.2.2.2.2,())).bind fun o=>match o with|.inl (_)=>some (-1)|.inr (D,_)=>some D
def oW (c:xj):Option (Ux×cS×mY×Unit⊕Ux×mY×Unit):=(vJ c).bind fun read=>bif !read.2 then some (.inr (read.1,([],[],[]),())) else(FR read.1.2.2.1 read.1.2.2.2).bind fun new=>(zF read.1.1 read.1.2.1).bind fun o=>match o with|.inl (D,F,_)=>bif !decide (F=0) then some (.inr (read.1,new,())) else some (.inl (read.1,D,new,()))|.inr (J,_)=>bif !decide (J=0) then some (.inr (read.1,new,())) else some (.inr (read.1,new,()))
def AE (lit:Int):bH:=J (aa .i64 (0 - lit))<|some (if(0 - lit)>lit then(0 - lit) else lit)
def wk (lit:Int) (model:gW):bz:=(AE lit).bind fun var=>bif decide (1<=var) then bif decide (var<=(model.length:Int)) then J (aa .i64 (var - 1))<|(ag model (var - 1)).bind fun D=>some (D==(decide (0<lit))) else some (false==(decide (0<lit))) else some (false==(decide (0<lit)))
def yq:Lp (aS×Int×GH) jr:=fun(F,U,D,M,N,_)=>bif decide (D<U) then(ag F D).bind fun O=>bif (decide (M=O.1)&&decide (N=O.2)) then some (.inr (.inr (D,()))) else J (aa .i64 (D+1))<|some (.inl (F,U,(D+1),M,N,())) else some (.inr (.inl (())))
def PO (s:aS) (v:iw):bH:=(ab yq (s,(s.length:Int),0,v.1,v.2,())).bind fun o=>match o with|.inl (_)=>some (-1)|.inr (D,_)=>some D
def IZ (s:aS) (v:iw):bz:=(PO s v).bind fun index=>some (decide (0<=index))
def CN:Lp (bF×Int×Int×aD×Int×Int×ae×jY×aD×NM) (bF×Int×Int×NM):=fun(aE,an,ar,av,az,F,D,a1,a6,U,Y,Z,M,ah,O,_)=>bif decide (F<az) then(ag av F).bind fun N=>(IZ M (D,N)).bind fun a7=>bif !a7 then J (M.length+([(D,N)]:aS).length<=1000000000)<|J (O.length+([((D,N),false)]:rD).length<=1000000000)<|J (aa .i64 (F+1))<|some (.inl (aE,an,ar,av,az,(F+1),D,a1,a6,U,Y,Z,(M++([(D,N)]:aS)),ah,(O++([((D,N),false)]:rD)),())) else J (aa .i64 (F+1))<|some (.inl (aE,an,ar,av,az,(F+1),D,a1,a6,U,Y,Z,M,ah,O,())) else some (.inr (aE,an,ar,U,Y,Z,M,ah,O,()))
def IP:Lp (bF×Int×Int×NM) NM:=fun(x9,ah,O,Y,Z,F,U,M,N,_)=>bif decide (O<ah) then(ag x9 O).bind fun D=>J (M.length+([D]:bF).length<=1000000000)<|(p8 F D.1).bind fun av=>bif !av then J (F.length+([D.1]:aD).length<=1000000000)<|J (N.length+([((D.1,[]),true)]:rD).length<=1000000000)<|(ab CN (x9,ah,O,D.2.2,(D.2.2.length:Int),0,D.1,D.2.1,D.2.2,Y,Z,(F++([D.1]:aD)),U,(M++([D]:bF)),(N++([((D.1,[]),true)]:rD)),())).bind fun(a7,a1,an,az)=>J (aa .i64 (an+1))<|some (.inl (a7,a1,(an+1),az)) else(ab CN (x9,ah,O,D.2.2,(D.2.2.length:Int),0,D.1,D.2.1,D.2.2,Y,Z,F,U,(M++([D]:bF)),N,())).bind fun(a8,a6,ar,aE)=>J (aa .i64 (ar+1))<|some (.inl (a8,a6,(ar+1),aE)) else some (.inr (Y,Z,F,U,M,N,()))
def vz (D:bF) (o:eE) (l:aA) (F:aD) (J:aS) (M:bF) (N:rD):adb:=(ab IP (D,(D.length:Int),0,o,l,F,J,M,N,())).bind fun(O,U,Y,Z,ah,an,_)=>some (O,U,Y,Z,ah,an)
def yR:Lp (eE×ae×uH) jr:=fun(F,M,U,N,D,_)=>bif decide (D<N) then(ag U D).bind fun O=>bif decide (0<=O) then bif decide (O<(F.length:Int)) then(ag F O).bind fun Y=>bif decide (Y.1.1=M) then some (.inr (.inr (O,()))) else J (aa .i64 (D+1))<|some (.inl (F,M,U,N,(D+1),())) else J (aa .i64 (D+1))<|some (.inl (F,M,U,N,(D+1),())) else J (aa .i64 (D+1))<|some (.inl (F,M,U,N,(D+1),())) else some (.inr (.inl (())))
def Ko (D:eE) (choice:aA) (s:ae):bH:=(ab yR (D,s,choice,(choice.length:Int),0,())).bind fun o=>match o with|.inl (_)=>some (-1)|.inr (F,_)=>some F
def I4 (t:iw×Bool) (o:eE) (l:aA) (F:aD) (J:aS) (M:bF) (N:rD):adb:=(Ko o l t.1.1).bind fun gH=>bif decide (gH<0) then some (o,l,F,J,M,N) else bif t.2 then(ag o gH).bind fun ah=>(vz ah.1.2.2.2.2.2.2.1 o l F J M N).bind fun meet=>some (meet.1,meet.2.1,meet.2.2.1,meet.2.2.2.1,meet.2.2.2.2.1,meet.2.2.2.2.2) else(ag o gH).bind fun U=>(qb U.1 t.1.2).bind fun O=>bif decide (0<=O) then(ag o gH).bind fun Y=>(ag Y.1.2.2.2.2.2.2.2 O).bind fun Z=>(vz Z.2 o l F J M N).bind fun D=>some (D.1,D.2.1,D.2.2.1,D.2.2.2.1,D.2.2.2.2.1,D.2.2.2.2.2) else some (o,l,F,J,M,N)
def DH:Lp (Int×adi) adi:=fun(at_,U,M,N,O,D,F,_)=>bif decide (at_<(D.length:Int)) then J (0<=at_/\at_<D.length)<|(D[at_.toNat]?).bind fun y=>(I4 y U F M N O D).bind fun next=>J (aa .i64 (at_+1))<|some (.inl ((at_+1),next.1,next.2.2.1,next.2.2.2.1,next.2.2.2.2.1,next.2.2.2.2.2,next.2.1,())) else some (.inr (U,M,N,O,D,F,()))
def Kn (D:eE) (roots:bF) (l:aA):Option (aA×eE×rD×bF×aS×aD):=(vz roots D l [] [] [] []).bind fun meet=>(ab DH (0,meet.1,meet.2.2.1,meet.2.2.2.1,meet.2.2.2.2.1,meet.2.2.2.2.2,meet.2.1,())).bind fun(U,J,M,N,O,F,_)=>some (F,U,O,N,M,J)
def KL (D:eE) (roots:bF) (l:aA):Option ((aD×aS)×aA):=(Kn D roots l).bind fun walk=>some ((walk.2.2.2.2.2,walk.2.2.2.2.1),walk.1)
def CO (i:Int) (F:aD) (M:cS):bz:=(ag M.1 i).bind fun J=>(p8 F J.1.1).bind fun D=>some (!D)
def Im:Lp (aA×aD×cS×iP) jr:=fun(N,F,M,O,D,_)=>bif decide (D<O) then(ag N D).bind fun U=>(CO U F M).bind fun choice=>bif choice then some (.inr (.inr (D,()))) else J (aa .i64 (D+1))<|some (.inl (N,F,M,O,(D+1),())) else some (.inr (.inl (())))
def O9 (s:aA) (f:aD) (D:cS):bH:=(ab Im (s,f,D,(s.length:Int),0,())).bind fun o=>match o with|.inl (_)=>some (-1)|.inr (F,_)=>some F
def Il:Lp (aD×cS×xn) xl:=fun(M,N,D,j,F,_)=>bif decide (j<(F.length:Int)) then J (0<=j/\j<F.length)<|(F[j.toNat]?).bind fun y=>(CO y M N).bind fun choice=>bif !choice then J (0<=D/\D<F.length)<|(F[D.toNat]?).bind fun q=>J (aa .i64 (D+1))<|J (aa .i64 (j+1))<|some (.inl (M,N,(D+1),(j+1),(F.set D.toNat y),())) else J (aa .i64 (j+1))<|some (.inl (M,N,D,(j+1),F,())) else some (.inr (D,F,()))
def Iq (del:aD) (N:cS) (l:aA):nh:=(O9 l del N).bind fun M=>bif decide (M=(-1)) then some l else J (aa .i64 (M+1))<|(ab Il (del,N,M,(M+1),l,())).bind fun(D,F,_)=>J (0<=D/\D<=(F.length:Int)/\0<F.length)<|J True<|J (0<=D/\D<=((F.take D.toNat++List.replicate (F.length - D.toNat) 0).length:Int)/\0<(F.take D.toNat++List.replicate (F.length - D.toNat) 0).length)<|some ((F.take D.toNat++List.replicate (F.length - D.toNat) 0).take D.toNat)
def CW:Lp (gW×Int×Int×cS×gV) (cS×gV):=fun(N,O,D,M,F,_)=>bif decide (D<O) then J (aa .i64 (D+1))<|(wk (D+1) N).bind fun U=>bif U then J (F.length+([D]:aA).length<=1000000000)<|J (aa .i64 (D+1))<|some (.inl (N,O,(D+1),M,(F++([D]:aA)),())) else J (aa .i64 (D+1))<|some (.inl (N,O,(D+1),M,F,())) else some (.inr (M,F,()))
def Dd (c:cS) (values:gW):nh:=(ab CW (values,(c.1.length:Int),0,c,[],())).bind fun(D,F,_)=>(KL D.1 D.2.1 F).bind fun reach=>J (F.length=reach.2.length)<|(Iq reach.1.1 D reach.2).bind fun delete=>some delete
def zh:Lp (Int×ae×ae×jz) (ae×ae×jz⊕jz):=fun(i,F,M,D,_)=>bif decide (i<(D.length:Int)) then J (0<=i/\i<D.length)<|(D[i.toNat]?).bind fun y=>bif (decide (y.1=F)&&decide (y.2=M)) then some (.inr (.inr (D,()))) else J (aa .i64 (i+1))<|some (.inl ((i+1),F,M,D,())) else some (.inr (.inl (F,M,D,())))
def vX (t:iw) (l:aS):Bs:=(ab zh (0,t.1,t.2,l,())).bind fun N=>match N with|.inl (F,M,D,_)=>J (D.length+([(F,M)]:aS).length<=1000000000)<|some (D++([(F,M)]:aS))|.inr (O,_)=>some O
def PE:Lp (aK×Int×Int×pP) (aK×Int×pP):=fun(F,D,k,M,N,_)=>(ag F D).bind fun U=>bif decide (k<(U.2.2.length:Int)) then(ag F D).bind fun Y=>(ag F D).bind fun Z=>(ag Z.2.2 k).bind fun ah=>(vX (Y.1,ah) N).bind fun O=>J (aa .i64 (k+1))<|some (.inl (F,D,(k+1),M,O,())) else some (.inr (F,D,M,N,()))
def PD:Lp (aK×Int×pP) pP:=fun(D,i,F,N,_)=>bif decide (i<(D.length:Int)) then(ag D i).bind fun O=>J (F.length+([O]:aK).length<=1000000000)<|(ag D i).bind fun ah=>(vX (ah.1,[]) N).bind fun met=>(ab PE (D,i,0,(F++([O]:aK)),met,())).bind fun(U,M,Y,Z,_)=>J (aa .i64 (M+1))<|some (.inl (U,(M+1),Y,Z,())) else some (.inr (F,N,()))
def Jk (l:aK):Option (aK×aS):=(ab PD (l,0,[],[],())).bind fun(D,F,_)=>some (D,F)
def yZ:Lp (bK×aA×lu) jr:=fun(D,F,M,i,_)=>bif decide (i<(F.length:Int)) then(ag F i).bind fun N=>bif decide (0<=N) then bif decide (N<(D.length:Int)) then(ag D N).bind fun O=>bif decide (O.1.1=M) then some (.inr (.inr (N,()))) else J (aa .i64 (i+1))<|some (.inl (D,F,M,(i+1),())) else J (aa .i64 (i+1))<|some (.inl (D,F,M,(i+1),())) else J (aa .i64 (i+1))<|some (.inl (D,F,M,(i+1),())) else some (.inr (.inl (())))
def qj (D:bK) (choice:aA) (s:ae):bH:=(ab yZ (D,choice,s,0,())).bind fun o=>match o with|.inl (_)=>some (-1)|.inr (F,_)=>some F
def LR (D:bK) (choice:aA) (t:iw):Option aK:=(qj D choice t.1).bind fun gH=>bif decide (gH<0) then some [] else bif decide (t.2=[]) then(ag D gH).bind fun J=>some J.1.2.2.2.2.2.2.1 else(ag D gH).bind fun M=>(tM M.1 t.2).bind fun F=>bif decide (F<0) then some [] else(ag D gH).bind fun N=>(ag N.1.2.2.2.2.2.2.2 F).bind fun O=>some O.2
def yE:Lp (aK×Int×Int×Bz) (aK×Int×Bz):=fun(F,D,k,M,N,_)=>(ag F D).bind fun U=>bif decide (k<(U.2.2.length:Int)) then(ag F D).bind fun Y=>(ag F D).bind fun Z=>(ag Z.2.2 k).bind fun ah=>(vX (Y.1,ah) M).bind fun O=>J (aa .i64 (k+1))<|some (.inl (F,D,(k+1),O,N,())) else some (.inr (F,D,M,N,()))
def yD:Lp (aK×Int×Bz) Bz:=fun(D,i,N,F,_)=>bif decide (i<(D.length:Int)) then(ag D i).bind fun O=>J (F.length+([O]:aK).length<=1000000000)<|(ag D i).bind fun ah=>(vX (ah.1,[]) N).bind fun met=>(ab yE (D,i,0,met,(F++([O]:aK)),())).bind fun(U,M,Y,Z,_)=>J (aa .i64 (M+1))<|some (.inl (U,(M+1),Y,Z,())) else some (.inr (N,F,()))
def yK (l:aK) (D:aS) (F:aK):Option (aS×aK):=(ab yD (l,0,D,F,())).bind fun(J,M,_)=>some (J,M)
def D':Lp (bK×aA×Int×pP) pP:=fun(F,M,at_,O,D,_)=>bif decide (at_<(D.length:Int)) then J (0<=at_/\at_<D.length)<|(D[at_.toNat]?).bind fun y=>(LR F M y).bind fun from_=>(yK from_ D O).bind fun N=>J (aa .i64 (at_+1))<|some (.inl (F,M,(at_+1),N.2,N.1,())) else some (.inr (O,D,()))
def tF (D:bK) (roots:aK) (choice:aA):Option (aS×aK):=(Jk roots).bind fun meet=>(ab D' (D,choice,0,meet.1,meet.2,())).bind fun(F,J,_)=>some (J,F)
def Dq:Lp (Int×aS×aK×jS) jS:=fun(i,D,M,F,_)=>bif decide (i<(D.length:Int)) then(ag D i).bind fun O=>bif decide (O.2=[]) then(ag D i).bind fun N=>J (F.length+([N.1]:aD).length<=1000000000)<|J (aa .i64 (i+1))<|some (.inl ((i+1),D,M,(F++([N.1]:aD)),())) else J (aa .i64 (i+1))<|some (.inl ((i+1),D,M,F,())) else some (.inr (F,()))
def yN (t:aS×aK):xk:=(ab Dq (0,t.1,t.2,[],())).bind fun(D,_)=>some D
def yC:Lp (gW×NO) ads:=fun(N,D,M,O,U,F,_)=>bif decide (D<(M.length:Int)) then bif decide (D<(N.length:Int)) then(ag N D).bind fun Y=>bif Y then J (F.length+([D]:aA).length<=1000000000)<|J (aa .i64 (D+1))<|some (.inl (N,(D+1),M,O,U,(F++([D]:aA)),())) else J (aa .i64 (D+1))<|some (.inl (N,(D+1),M,O,U,F,())) else some (.inr (M,O,U,F,())) else some (.inr (M,O,U,F,()))
def Dg:Lp (aA×aD×Int×NO) (aA×aD×NO):=fun(F,M,N,D,U,Y,Z,O,_)=>bif decide (D<(M.length:Int)) then(ag M D).bind fun an=>(ag F N).bind fun ar=>(ag U ar).bind fun av=>bif decide (an=av.1.1) then(ag F N).bind fun ah=>J (O.length+([ah]:aA).length<=1000000000)<|J (aa .i64 (D+1))<|some (.inl (F,M,N,(D+1),U,Y,Z,(O++([ah]:aA)),())) else J (aa .i64 (D+1))<|some (.inl (F,M,N,(D+1),U,Y,Z,O,())) else some (.inr (F,M,N,U,Y,Z,O,()))
def Df:Lp (aA×aD×NO) gV:=fun(F,x8,M,ar,U,Y,D,_)=>bif decide (M<(F.length:Int)) then(ab Dg (F,x8,M,0,ar,U,Y,D,())).bind fun(av,az,N,Z,ah,an,O,_)=>J (aa .i64 (N+1))<|some (.inl (av,az,(N+1),Z,ah,an,O,())) else some (.inr (D,()))
def JP (x:mY) (N:gW):nh:=(ab yC (N,0,x.1,x.2.1,x.2.2,[],())).bind fun(F,J,O,D,_)=>(tF F J D).bind fun reach=>(yN reach).bind fun names=>(ab Df (D,names,0,F,J,O,[],())).bind fun(M,_)=>some M
def I' (c:xj) (values:gW):bz:=(oW c).bind fun o=>match o with|.inl (both,D,F,_)=>eO.bind fun M=>bif !M then eO.bind fun N=>some N else bif decide (500<(values.length:Int)) then eO.bind fun O=>some O else(Dd D values).bind fun choice=>(JP F values).bind fun J=>(oZ choice J).bind fun ints=>some ints|.inr (ah,an,_)=>eO.bind fun U=>bif !U then eO.bind fun Y=>some Y else eO.bind fun Z=>some Z
theorem Sv (e:bO) (s:List UInt8) (D:e.2.2.2.2.2.2.2.length<=1000):tM e s=some (bG e.2.2.2.2.2.2.2 fun f=>decide (f.1=s)):=by
 unfold tM bG;have main:=iT (f:=Ey) e.2.2.2.2.2.2.2 (fun f=>decide (f.1=s)) (fun k=>(s,k,e.1,e.2.1,e.2.2.1,e.2.2.2.1,e.2.2.2.2.1,e.2.2.2.2.2.1,e.2.2.2.2.2.2.1,e.2.2.2.2.2.2.2,())) (fun k=>.inr (k,())) (.inl ()) ?_ ?_ ?_
 · grind
 · intro k hk hp;have hp:=of_decide_eq_false hp;simp (disch:=omega) only[K0,Ey]
 · intro k hk hp;have hp:=of_decide_eq_true hp;simp (disch:=omega) only[K0,Ey]
 · simp[Ey]
theorem SC {α β:Type} {e:Nat->α->List β}: ∀(l:List α) (k:Nat),(∀j (h:j<l.length),e (k+j) l[j]=[])->aN e l k=[]
 |[],k,_=>rfl
 |x::t,k,h=>by show e k x++aN e t (k+1)=[];rw[show e k x=[] from h 0 (Nat.zero_lt_succ _),SC t (k+1) (fun j D=>by have:=h (j+1) (Nat.succ_lt_succ D);rw[show k+1+j=k+(j+1) by omega];exact this)];rfl
theorem Tp (A:List aq) (R:List al):(bn A R).2.1=R.map aO:=rfl
theorem wT {ns:List al} {k:Nat} (h:k<ns.length) {R:Type} (f:dC->Option R):(ag (ns.map aO) (k:Int)).bind f=f (aO ns[k]):=by rw[au (l:=ns.map aO) (by grind),au5]
section
variable (A:List aq) (hA:bu A) (R:List al) (hR:bM R) (hT:(ax A R).length<=400)
include hA
end
theorem Fh (a:List Int) (D:a.length<=1000000000):oZ a a=some true:=by
 unfold oZ;simp (disch:=omega) only[K0];have main:=kg (f:=K4) a (fun _=>true) (fun k=>(a,a,k,())) (.inl ()) (.inr ()) ?_ ?_ ?_
 · grind
 · intro k hk _;simp only[K4,dY (show(k)<(a.length:Int) by omega),cond_true,au hk,decide_true,ae8,cond_false,aw (show k+1<=4611686018427387904 by omega),aH]
 · grind
 · simp[K4]
theorem RF (p t:List UInt8) (J:List (List UInt8)) (m:List UInt8):
  (∃A R,bu A/\bM R/\(ax A R).length<=400/\A.length+(ax A R).length<=400/\oW ((p,t,J),m)=some (.inl ((A.map bN,R.map aO,A,R),bn A R,ij A R,())))\/
  pn (oW ((p,t,J),m)) (fun o=> ∃b,o=.inr b):=by
 unfold oW;rcases RE p t J m with⟨A,R,hA,hR,F⟩ |F
 · have hs:=hA.many;have N:=S8 A hA R hR;have M:=TF A hA R hR;simp only[F,ae2,ae8,cond_false,N,M];by_cases e:400<A.length+(ax A R).length
   · rw[if_pos e];refine .inr ?_;simp only[ae2];rw[dN (show¬(2:Int)=0 by decide)]
     exact⟨_,rfl⟩
   · rw[if_neg e];obtain⟨D,f1,_,_⟩:=L2 A hA R hR (by omega)
     rw[f1,ae2];by_cases Y:8000<D.length
     · rw[dY (show(8000:Int)<(D.length:Int) by omega),cond_true]
       refine .inr ?_;simp only[ae2];rw[dN (show¬(2:Int)=0 by decide)]
       exact⟨_,rfl⟩
     · rw[dN (show¬(8000:Int)<(D.length:Int) by omega),cond_false]
       refine .inl ⟨A,R,hA,hR,by omega,by omega,?_⟩
       simp only[ae2,decide_true,ae8,cond_false];rfl
 · obtain⟨x,O,U⟩:=jj F;refine .inr ?_;simp only[O,ae2,U,as4,cond_true];exact⟨_,rfl⟩
theorem K8 {V R α S:Type} {f:V->Option (V⊕R)} {v0:V} (l:List α) (g:S->α->S) (st:Nat->S->V) (out:S->R) (I:Nat->S->Prop) (D:S) (F:st 0 D=v0) (h0:I 0 D)
 (h1: ∀k (hk:k<l.length) s,I k s->f (st k s)=some (.inl (st (k+1) (g s l[k])))/\I (k+1) (g s l[k]))
 (h2: ∀s,I l.length s->f (st l.length s)=some (.inr (out s))):ab f v0=some (out (l.foldl g D)):=(wh l g I st out h1 h2 D h0 F).1
theorem wg (l:List aV) (t:aV):(eK l t).length<=l.length+1:=by unfold eK;split<;>simp
theorem Z8 (l:List aV) (t x:aV):x∈eK l t<->x∈l\/x=t:=by
 unfold eK;split
 · exact⟨.inl,fun h=>h.elim id fun e=>e▸ ‹t∈l›⟩
 · rw[as3,at5]
theorem X5 {l:List aV} {t:aV} (h:l.Nodup):(eK l t).Nodup:=by
 unfold eK;split
 · exact h
 · exact nR h ‹_›
theorem Lf (x t:aV):(decide (x.1=t.1)&&decide (x.2=t.2))=decide (x=t):=by
 by_cases e:x=t
 · subst e;simp
 · rw[decide_eq_false e,Bool.and_eq_false_iff];by_cases a:x.1=t.1
   · exact .inr (decide_eq_false fun b=>e (Prod.ext a b))
   · exact .inl (decide_eq_false a)
theorem ab3 (t:aV) (l:List aV) (F:l.length<=1000000):vX t l=some (eK l t):=by
 unfold vX eK;have c: ∀{k:Nat} {R:Type} (q:Option R),k<l.length->J (0<=((k:Nat):Int)/\((k:Nat):Int)<(l.length:Int)) q=q:=fun q _=>ai ⟨by omega,by omega⟩
 have h:=iT (f:=zh) l (fun y=>decide (y=t)) (fun k=>((k:Int),t.1,t.2,l,())) (fun _=>Sum.inr (l,())) (Sum.inl (t.1,t.2,l,())) (fun k h hp=>by
  simp only[zh,dY (show(k:Int)<(l.length:Int) by omega),cond_true,c _ h,as1,ae9 h,ae2,Lf,hp,cond_false,aH,aw (show k+1<=4611686018427387904 by omega)]) (fun k h hp=>by
  simp only[zh,dY (show(k:Int)<(l.length:Int) by omega),cond_true,c _ h,as1,ae9 h,ae2,Lf,hp]) (by
  simp only[zh,dN (show¬(l.length:Int)<(l.length:Int) by omega),cond_false])
 rw[show ab zh (0,t.1,t.2,l,())=_ from h]
 by_cases e:t∈l
 · rw[if_pos e];have:(l.findIdx? fun y=>decide (y=t)).isSome:=by rw[List.findIdx?_isSome];exact ax9.2 ⟨t,e,decide_eq_true rfl⟩
   obtain⟨k,hk⟩:=Option.isSome_iff_exists.1 this;rw[hk];rfl
 · rw[if_neg e];have:l.findIdx? (fun y=>decide (y=t))=none:=List.findIdx?_eq_none_iff.2 fun x D=>decide_eq_false fun q=>e (q▸D);rw[this];simp only[ae2];rw[ib (by omega)]
theorem ajV (l:List aV) (t:aV) (F:l.length<=1000000):IZ l t=some (decide (t∈l)):=by
 have h:=iT (f:=yq) l (fun y=>decide (y=t)) (fun k=>(l,(l.length:Int),(k:Int),t.1,t.2,())) (fun k=>Sum.inr ((k:Int),())) (Sum.inl ()) (fun k h hp=>by
  have D:(decide (t.1=(l[k]).1)&&decide (t.2=(l[k]).2))=false:=by rw[Lf];exact decide_eq_false fun e=>of_decide_eq_false hp e.symm
  simp only[yq,dY (show(k:Int)<(l.length:Int) by omega),cond_true,cond_false,au h,D,aH,aw (show k+1<=4611686018427387904 by omega)]) (fun k h hp=>by
  have D:(decide (t.1=(l[k]).1)&&decide (t.2=(l[k]).2))=true:=by rw[Lf];exact decide_eq_true (of_decide_eq_true hp).symm
  simp only[yq,dY (show(k:Int)<(l.length:Int) by omega),cond_true,au h,D]) (by
  simp only[yq,dN (show¬(l.length:Int)<(l.length:Int) by omega),cond_false])
 unfold IZ PO;rw[show ab yq (l,(l.length:Int),0,t.1,t.2,())=_ from h,ae2]
 have e:decide (t∈l)=l.any fun y=>decide (y=t):=by rw[Bool.eq_iff_iff,decide_eq_true_eq,ax9];exact⟨fun h=>⟨t,h,decide_eq_true rfl⟩,fun⟨x,h,q⟩=>of_decide_eq_true q▸h⟩
 rw[e,<-o9 l (fun y=>decide (y=t)) inferInstance];unfold bG;cases l.findIdx? (fun y=>decide (y=t))<;>rfl
def Ns (n:al):Prop:=n.2.2.length<=4/\ ∀f∈n.2.2,f≠[]
theorem FG {n:al} (h:nY 4 n):Ns n:=⟨h.2.2.1,fun f hf e=>by have:=h.2.2.2.1 f hf;rw[e] at this;exact absurd this (by decide)⟩
theorem RA (s:List UInt8): ∀(D:List (List UInt8)) (l:List aV),(jk s l D).length<=l.length+D.length
 |[],l=>ae5 _
 |f::t,l=>by have h1:=wg l (s,f);have h2:=RA s t (eK l (s,f));show(jk s (eK l (s,f)) t).length<=l.length+(t.length+1);omega
theorem akE (ns:List al) (k:Nat) (hk:k<ns.length) (F:Ns ns[k]) (l:List aV) (D:List al) (N:l.length<=900000):
  ab yE (ns,(k:Int),0,l,D,())=some (ns,(k:Int),jk (ns[k]).1 l (ns[k]).2.2,D,()):=by
 have F:=F.1;refine K8 (ns[k]).2.2 (fun l f=>eK l ((ns[k]).1,f)) (fun j l=>(ns,(k:Int),(j:Int),l,D,())) (fun l=>(ns,(k:Int),l,D,())) (fun j M=>M.length<=l.length+j) l rfl (ae5 _) (fun j J s hs=>⟨?_,?_⟩) (fun s hs=>?_)
 · simp only[yE,au hk,dY (show((j:Nat):Int)<((ns[k]).2.2.length:Int) by omega),cond_true,au J,ab3 ((ns[k]).1,(ns[k]).2.2[j]) s (by omega),ae2,aH,aw (show j+1<=4611686018427387904 by omega)]
 · have:=wg s ((ns[k]).1,(ns[k]).2.2[j]);show(eK s _).length<=_;omega
 · simp only[yE,au hk,as2,decide_false,cond_false]
theorem aab (ns:List al) (F: ∀n∈ns,Ns n) (l:List aV) (D:List al) (Y:ns.length<=1000) (U:l.length<=800000) (O:D.length<=900000):
  yK ns l D=some (eZ l ns,D++ns):=by
 unfold yK;have e:=K8 (f:=yD) (v0:=(ns,0,l,D,())) ns (fun(s:List aV×List al) n=>(jk n.1 (eK s.1 (n.1,[])) n.2.2,s.2++[n])) (fun k s=>(ns,(k:Int),s.1,s.2,())) (fun s=>(s.1,s.2,())) (fun k s=>s.1.length<=l.length+5*k/\s.2.length<=D.length+k) (l,D) rfl ⟨ae5 _,ae5 _⟩ (fun k hk s hs=>⟨?_,?_⟩) (fun s hs=>?_)
 · rw[e]
   have: ∀(ns:List al) (l:List aV) (D:List al),ns.foldl (fun(s:List aV×List al) n=>(jk n.1 (eK s.1 (n.1,[])) n.2.2,s.2++[n])) (l,D)=(eZ l ns,D++ns):=by
    intro ns
    induction ns with
    |nil=>intro l D;rw[at0];rfl
    |cons n t M=>intro l D;rw[aw6,M,at8];rfl
   rw[this];rfl
 · have hm:=wg s.1 ((ns[k]).1,[]);have h1:=hs.1;have h2:=hs.2;have c: ∀{R:Type} (q:Option R),J (s.2.length+([ns[k]]:List al).length<=1000000000) q=q:=fun q=>ib (by omega)
   simp only[yD,dY (show((k:Nat):Int)<(ns.length:Int) by omega),cond_true,au hk,c,ab3 ((ns[k]).1,[]) s.1 (by omega),ae2,akE ns k hk (F _ (ae3 hk)) _ (s.2++[ns[k]]) (show(eK s.1 ((ns[k]).1,[])).length<=900000 by omega),aH,aw (show k+1<=4611686018427387904 by omega)]
 · have hm:=wg s.1 ((ns[k]).1,[]);have hf:=RA (ns[k]).1 (ns[k]).2.2 (eK s.1 ((ns[k]).1,[]));have N:=(F _ (ae3 hk)).1;have h1:=hs.1;have h2:=hs.2;refine⟨?_,?_⟩
   · show(jk _ _ _).length<=_;omega
   · show(s.2++[ns[k]]).length<=_;rw[as0];show s.2.length+1<=_;omega
 · simp only[yD,as2,decide_false,cond_false]
def fw (l:List aV):List aV:=l.filter fun t=> !decide (t.2=[])
def fQ (l:List aV):List (aV×Bool):=l.map fun t=>(t,decide (t.2=[]))
theorem FH {l:List aV} {s:List UInt8}:s∈cX l<->(s,[])∈l:=by
 unfold cX;rw[List.mem_map];constructor
 · rintro⟨t,h,rfl⟩;obtain⟨a,b⟩:=ay8.1 h;have b:t.2=[]:=of_decide_eq_true b;rw[<-b];exact a
 · intro h;exact⟨_,ay8.2 ⟨h,decide_eq_true rfl⟩,rfl⟩
theorem Zw {l:List aV} {s f:List UInt8} (hf:f≠[]):(s,f)∈fw l<->(s,f)∈l:=by unfold fw;rw[ay8];exact⟨fun h=>h.1,fun h=>⟨h,by rw[decide_eq_false hf];rfl⟩⟩
theorem anu (l:List aV) (s:List UInt8):cX (l++[(s,[])])=cX l++[s]:=by unfold cX;rw[List.filter_append,at4];rfl
theorem anv (l:List aV) (s:List UInt8) {f:List UInt8} (hf:f≠[]):cX (l++[(s,f)])=cX l:=by unfold cX;rw[List.filter_append,List.filter_cons_of_neg (by simp [hf])];simp
theorem amA (l:List aV) (s:List UInt8):fw (l++[(s,[])])=fw l:=by unfold fw;rw[List.filter_append];simp
theorem amB (l:List aV) (s:List UInt8) {f:List UInt8} (hf:f≠[]):fw (l++[(s,f)])=fw l++[(s,f)]:=by unfold fw;rw[List.filter_append,List.filter_cons_of_pos (by simp [hf])];rfl
theorem Yq (l:List aV) (t:aV):fQ (l++[t])=fQ l++[(t,decide (t.2=[]))]:=by unfold fQ;rw[at4];rfl
theorem FI (l:List aV):(cX l).length<=l.length:=by unfold cX;rw[ae4];exact List.length_filter_le _ _
theorem aon (l:List aV):(fw l).length<=l.length:=List.length_filter_le _ _
theorem RR (l:List aV):(fQ l).length=l.length:=ae4 _
theorem Xy (M:List sq) (choice:List Int) (Y:List dC) (O U:Int) (s:List UInt8) (rv:List (List cO)) (D:List (List UInt8)) (h4:D.length<=4) (hf: ∀f∈D,f≠[]) (l:List aV) (N:List dC) (hl:l.length<=900000):
  ab CN (Y,O,U,D,(D.length:Int),0,s,rv,D,M,choice,cX l,fw l,N,fQ l,())=some (Y,O,U,M,choice,cX (jk s l D),fw (jk s l D),N,fQ (jk s l D),()):=by
 refine K8 D (fun l f=>eK l (s,f)) (fun j l=>(Y,O,U,D,(D.length:Int),(j:Int),s,rv,D,M,choice,cX l,fw l,N,fQ l,())) (fun l=>(Y,O,U,M,choice,cX l,fw l,N,fQ l,())) (fun j l'=>l'.length<=l.length+j) l rfl (ae5 _) (fun j Z q hq=>⟨?_,?_⟩) (fun q hq=>?_)
 · have F:=hf _ (ae3 Z);have hw:=aon q;have ht:=RR q;simp only[CN,dY (show((j:Nat):Int)<(D.length:Int) by omega),cond_true,au Z,ajV (fw q) (s,D[j]) (by omega),ae2]
   by_cases e:(s,D[j])∈q
   · rw[dY ((Zw F).2 e)];have hm:eK q (s,D[j])=q:=if_pos e;simp only[ae8,cond_false,aH,aw (show j+1<=4611686018427387904 by omega),hm]
   · rw[dN (fun h=>e ((Zw F).1 h))];have hm:eK q (s,D[j])=q++[(s,D[j])]:=if_neg e;have c1: ∀{R:Type} (r:Option R),J ((fw q).length+([(s,D[j])]:List aV).length<=1000000000) r=r:=fun r=>ib (by omega)
     have c2: ∀{R:Type} (r:Option R),J ((fQ q).length+([((s,D[j]),false)]:List (aV×Bool)).length<=1000000000) r=r:=fun r=>ib (by omega)
     simp only[as4,cond_true,c1,c2,aH,aw (show j+1<=4611686018427387904 by omega),hm,anv q s F,amB q s F,Yq,dN F]
 · have:=wg q (s,D[j]);show(eK q _).length<=_;omega
 · simp only[CN,as2,decide_false,cond_false]
theorem aaa (F:List sq) (choice:List Int) (ns:List al) (O: ∀n∈ns,Ns n) (l:List aV) (D:List al) (hn:ns.length<=1000) (hl:l.length<=800000) (hd:D.length<=900000):
  vz (ns.map aO) F choice (cX l) (fw l) (D.map aO) (fQ l)=some (F,choice,cX (eZ l ns),fw (eZ l ns),(D++ns).map aO,fQ (eZ l ns)):=by
 unfold vz;have e:=K8 (f:=IP) (v0:=(ns.map aO,(ns.length:Int),0,F,choice,cX l,fw l,D.map aO,fQ l,())) ns (fun(s:List aV×List al) n=>(jk n.1 (eK s.1 (n.1,[])) n.2.2,s.2++[n])) (fun k s=>(ns.map aO,(ns.length:Int),(k:Int),F,choice,cX s.1,fw s.1,s.2.map aO,fQ s.1,())) (fun s=>(F,choice,cX s.1,fw s.1,s.2.map aO,fQ s.1,())) (fun k s=>s.1.length<=l.length+5*k/\s.2.length<=D.length+k) (l,D) rfl ⟨ae5 _,ae5 _⟩ (fun k hk s hs=>⟨?_,?_⟩) (fun s hs=>?_)
 · rw[show((ns.map aO).length:Int)=(ns.length:Int) by rw[ae4],e]
   have: ∀(ns:List al) (l:List aV) (D:List al),ns.foldl (fun(s:List aV×List al) n=>(jk n.1 (eK s.1 (n.1,[])) n.2.2,s.2++[n])) (l,D)=(eZ l ns,D++ns):=by
    intro ns
    induction ns with
    |nil=>intro l D;rw[at0];rfl
    |cons n t ih=>intro l D;rw[aw6,ih,at8];rfl
   rw[this];rfl
 · have hm:=wg s.1 ((ns[k]).1,[]);have h1:=hs.1;have h2:=hs.2;have hN:=FI s.1;have hT:=RR s.1;have M:=O _ (ae3 hk);have c: ∀{R:Type} (q:Option R),J ((s.2.map aO).length+([aO ns[k]]:List dC).length<=1000000000) q=q:=fun q=>ib (by rw[ae4];omega)
   have a1:(aO ns[k]).1=(ns[k]).1:=rfl;have a2:(aO ns[k]).2.1=dU (ns[k]).2.1:=rfl;have a3:(aO ns[k]).2.2=(ns[k]).2.2:=rfl;have ah:s.2.map aO++[aO ns[k]]=(s.2++[ns[k]]).map aO:=by rw[at4];rfl
   have Y:=aH k;have U: ∀{R:Type} (q:Option R),J (aa .i64 ((k+1:Nat):Int)) q=q:=fun q=>aw (show k+1<=4611686018427387904 by omega)
   simp only[IP,dY (show((k:Nat):Int)<(ns.length:Int) by omega),cond_true,wT hk,c,a1,a2,a3,zo (cX s.1) (ns[k]).1 (by omega),ae2]
   by_cases e:((ns[k]).1,[])∈s.1
   · rw[(qD _ _).2 (FH.2 e)];have N:eK s.1 ((ns[k]).1,[])=s.1:=if_pos e;rw[N];simp only[ae8,cond_false,Xy F choice _ _ _ _ _ _ M.1 M.2 s.1 _ (by omega),ae2,Y,U,ah]
   · rw[show cw (cX s.1) (ns[k]).1=false from by rw[Bool.eq_false_iff];exact fun h=>e (FH.1 ((qD _ _).1 h))]
     have N:eK s.1 ((ns[k]).1,[])=s.1++[((ns[k]).1,[])]:=if_neg e;rw[N] at hm⊢;have c1: ∀{R:Type} (r:Option R),J ((cX s.1).length+([(ns[k]).1]:List (List UInt8)).length<=1000000000) r=r:=fun r=>ib (by omega)
     have c2: ∀{R:Type} (r:Option R),J ((fQ s.1).length+([(((ns[k]).1,[]),true)]:List (aV×Bool)).length<=1000000000) r=r:=fun r=>ib (by omega)
     have Z:=Xy F choice (ns.map aO) (ns.length:Int) (k:Int) (ns[k]).1 (dU (ns[k]).2.1) (ns[k]).2.2 M.1 M.2 (s.1++[((ns[k]).1,[])]) ((s.2++[ns[k]]).map aO) (by omega)
     rw[anu,amA,Yq,dY (show(((ns[k]).1,[]):aV).2=[] from rfl)] at Z
     simp only[as4,cond_true,c1,c2,ah,Z,ae2,Y,U]
 · have hm:=wg s.1 ((ns[k]).1,[]);have hf:=RA (ns[k]).1 (ns[k]).2.2 (eK s.1 ((ns[k]).1,[]));have h3:=(O _ (ae3 hk)).1;have h1:=hs.1;have h2:=hs.2;refine⟨?_,?_⟩
   · show(jk _ _ _).length<=_;omega
   · show(s.2++[ns[k]]).length<=_;rw[as0];show s.2.length+1<=_;omega
 · simp only[IP,as2,decide_false,cond_false]
theorem Az {A:List aq} {s:List UInt8} {i:Int}:ta A s i=true<-> ∃k,∃h:k<A.length,i=(k:Int)/\(A[k]).1.1=s:=by
 unfold ta;rw[Bool.and_eq_true,decide_eq_true_eq];constructor
 · rintro⟨a,b⟩;obtain⟨k,rfl⟩: ∃k:Nat,i=(k:Int):=⟨i.toNat,by omega⟩
   rw[as1] at b;by_cases h:k<A.length
   · rw[ae9 h] at b;exact⟨k,h,rfl,of_decide_eq_true b⟩
   · rw[ay2 (by omega)] at b;cases b
 · rintro⟨k,h,rfl,e⟩;rw[as1,ae9 h];exact⟨by omega,decide_eq_true e⟩
theorem nP (A:List aq) (choice:List Int) (s:List UInt8):(choice.find? (ta A s)=none/\ei A choice s= -1)\/ ∃k,∃h:k<A.length,ei A choice s=(k:Int)/\(A[k]).1.1=s/\(k:Int)∈choice:=by
 unfold ei;cases h:choice.find? (ta A s) with
 |none=>exact .inl ⟨rfl,rfl⟩
 |some i=>obtain⟨k,hk,rfl,e⟩:=Az.1 (List.find?_some h);exact .inr ⟨k,hk,rfl,e,List.mem_of_find?_eq_some h⟩
theorem tD (A:List aq) (choice:List Int) (s:List UInt8) (hc:choice.length<=1000000):qj A choice s=some (ei A choice s):=by
 unfold qj ei;have h:=tI (f:=yZ) choice (ta A s) (fun k=>(A,choice,s,(k:Int),())) (fun i=>.inr (i,())) (.inl ()) (fun k hk hp=>?_) (fun k hk hp=>?_) ?_
 · rw[show ab yZ (A,choice,s,0,())=_ from h]
   cases choice.find? (ta A s)<;>rfl
 · simp only[yZ,dY (show(k:Int)<(choice.length:Int) by omega),cond_true,au hk,aH,aw (show k+1<=4611686018427387904 by omega)]
   by_cases a:0<=choice[k]
   · by_cases b:choice[k]<(A.length:Int)
     · obtain⟨j,D⟩: ∃j:Nat,choice[k]=(j:Int):=⟨(choice[k]).toNat,by omega⟩
       have F:j<A.length:=by omega
       have e: ¬(A[j]).1.1=s:=fun e=>by rw[D,Az.2 ⟨j,F,rfl,e⟩] at hp;cases hp
       simp only[D,dY (show(0:Int)<=(j:Int) by omega),dY (show(j:Int)<(A.length:Int) by omega),cond_true,au F,dN e,cond_false]
     · simp only[dY a,dN b,cond_true,cond_false]
   · simp only[dN a,cond_false]
 · obtain⟨j,D,e,J⟩:=Az.1 hp;simp only[yZ,dY (show(k:Int)<(choice.length:Int) by omega),cond_true,au hk,e,dY (show(0:Int)<=(j:Int) by omega),dY (show(j:Int)<(A.length:Int) by omega),au D,dY J]
 · simp only[yZ,as2,decide_false,cond_false]
theorem amm (A:List aq) (choice:List Int) (s:List UInt8) (hc:choice.length<=1000000):Ko (A.map bN) choice s=some (ei A choice s):=by
 unfold Ko ei;have J: ∀{j:Nat} (h:j<A.length),(bN A[j]).1.1=(A[j]).1.1:=fun _=>rfl;have h:=tI (f:=yR) choice (ta A s) (fun k=>(A.map bN,s,choice,(choice.length:Int),(k:Int),())) (fun i=>.inr (i,())) (.inl ()) (fun k hk hp=>?_) (fun k hk hp=>?_) ?_
 · rw[show ab yR (A.map bN,s,choice,(choice.length:Int),0,())=_ from h]
   cases choice.find? (ta A s)<;>rfl
 · simp only[yR,dY (show(k:Int)<(choice.length:Int) by omega),cond_true,au hk,aH,aw (show k+1<=4611686018427387904 by omega),ae4]
   by_cases a:0<=choice[k]
   · by_cases b:choice[k]<(A.length:Int)
     · obtain⟨j,D⟩: ∃j:Nat,choice[k]=(j:Int):=⟨(choice[k]).toNat,by omega⟩
       have F:j<A.length:=by omega
       have e: ¬(A[j]).1.1=s:=fun e=>by rw[D,Az.2 ⟨j,F,rfl,e⟩] at hp;cases hp
       simp only[D,dY (show(0:Int)<=(j:Int) by omega),dY (show(j:Int)<(A.length:Int) by omega),cond_true,kC F,J F,dN e,cond_false]
     · simp only[dY a,dN b,cond_true,cond_false]
   · simp only[dN a,cond_false]
 · obtain⟨j,D,e,M⟩:=Az.1 hp;simp only[yR,dY (show(k:Int)<(choice.length:Int) by omega),cond_true,au hk,e,dY (show(0:Int)<=(j:Int) by omega),dY (show(j:Int)<(A.length:Int) by omega),kC D,J D,dY M,ae4]
 · simp only[yR,as2,decide_false,cond_false]
theorem alV {e:bO} (h:dD e) (f:List UInt8):(mL e f).length<=8/\ ∀n∈mL e f,nY 4 n:=by
 unfold mL;split
 · exact⟨h.wJ,h.dO⟩
 · cases hf:eP e f with
   |none=>exact⟨ae6 _,fun n D=>(av6 D).elim⟩
   |some k=>have:=h.lX _ (ES hf);exact⟨this.2.1,this.2.2⟩
theorem Sp {A:List aq} (hA:bu A) (choice:List Int) (t:aV):(eQ A choice t).length<=8/\ ∀n∈eQ A choice t,nY 4 n:=by
 unfold eQ;split
 · rename_i y F;split
   · exact⟨ae6 _,fun n D=>(av6 D).elim⟩
   · exact alV (hA.cV _ (List.mem_of_getElem? F)) _
 · exact⟨ae6 _,fun n D=>(av6 D).elim⟩
theorem aar {A:List aq} {choice:List Int} {t:aV} (h:ei A choice t.1= -1):eQ A choice t=[]:=by unfold eQ;rw[h];split<;>rfl
theorem LB {A:List aq} {choice:List Int} {t:aV} {k:Nat} (hk:k<A.length) (h:ei A choice t.1=(k:Int)):eQ A choice t=mL (A[k]).1 t.2:=by unfold eQ;rw[h,as1,ae9 hk];exact if_neg (by omega)
theorem Qk (e:bO):mL e []=e.2.2.2.2.2.2.1:=if_pos rfl
theorem X4 {e:bO} {f:List UInt8} (hf:f≠[]) (h:bG e.2.2.2.2.2.2.2 (fun x=>decide (x.1=f))= -1):mL e f=[]:=by unfold mL eP;rw[if_neg hf,h,if_pos (by decide)];rfl
theorem Xv {e:bO} {f:List UInt8} (hf:f≠[]) {k:Nat} (hk:k<e.2.2.2.2.2.2.2.length) (h:bG e.2.2.2.2.2.2.2 (fun x=>decide (x.1=f))=(k:Int)):mL e f=((e.2.2.2.2.2.2.2)[k]).2:=by unfold mL eP;rw[if_neg hf,h,if_neg (by omega),as1,ae9 hk];rfl
theorem apq (A:List aq) (hA:bu A) (choice:List Int) (hc:choice.length<=1000000) (t:aV):LR A choice t=some (eQ A choice t):=by
 unfold LR;rw[tD A choice t.1 hc,ae2];rcases nP A choice t.1 with⟨_,h⟩ |⟨k,hk,h,_,_⟩
 · rw[aar h,h];rfl
 · have he:=hA.cV _ (ae3 hk);have F:=he.iW;rw[LB hk h,h,dN (show¬(k:Int)<0 by omega),cond_false]
   by_cases e:t.2=[]
   · rw[dY e,cond_true,au hk,e,Qk]
   · rw[dN e,cond_false,au hk,Sv _ _ (by omega),ae2]
     rcases kX (A[k]).1.2.2.2.2.2.2.2 (fun x=>decide (x.1=t.2)) with⟨_,g⟩ |⟨j,D,g,g2,_⟩
     · rw[X4 e g,g];rfl
     · rw[Xv e D g2,g2,dN (show¬(j:Int)<0 by omega),cond_false,au hk,au D]
theorem aoY (A:List aq) (hA:bu A) (choice:List Int) (hc:choice.length<=1000000) (t:aV) (l:List aV) (F:List al) (O:l.length<=800000) (M:F.length<=900000):
  I4 (t,decide (t.2=[])) (A.map bN) choice (cX l) (fw l) (F.map aO) (fQ l)=some (A.map bN,choice,cX (eZ l (eQ A choice t)),fw (eZ l (eQ A choice t)),(F++eQ A choice t).map aO,fQ (eZ l (eQ A choice t))):=by
 unfold I4;have Y:=Sp hA choice t;have D:=aaa (A.map bN) choice (eQ A choice t) (fun n U=>FG (Y.2 n U)) l F (by omega) O M
 simp only[amm A choice t.1 hc,ae2];rcases nP A choice t.1 with⟨_,h⟩ |⟨k,hk,h,_,_⟩
 · rw[aar h,h,at0];rfl
 · have he:=hA.cV _ (ae3 hk);have Z:=he.iW;rw[LB hk h] at D⊢;rw[h,dN (show¬(k:Int)<0 by omega),cond_false]
   by_cases e:t.2=[]
   · rw[dY e,cond_true,kC hk,show(bN A[k]).1.2.2.2.2.2.2.1=(A[k]).1.2.2.2.2.2.2.1.map aO from rfl]
     rw[e,Qk] at D⊢;rw[D];rfl
   · have N:qb (bN A[k]).1 t.2=some (bG (A[k]).1.2.2.2.2.2.2.2 (fun f=>decide (f.1=t.2))):=by
       rw[My _ _ (by show((A[k]).1.2.2.2.2.2.2.2.map ee).length<=1000;rw[ae4];omega)]
       show some (bG ((A[k]).1.2.2.2.2.2.2.2.map ee) _)=_;rw[Sm];rfl
     rw[dN e,cond_false,kC hk,N,ae2];rcases kX (A[k]).1.2.2.2.2.2.2.2 (fun x=>decide (x.1=t.2)) with⟨_,g⟩ |⟨j,J,g,g2,_⟩
     · rw[X4 e g,g,at0];rfl
     · rw[Xv e J g2] at D⊢;rw[g2,dY (show(0:Int)<=(j:Int) by omega),cond_true,kC hk,show(bN A[k]).1.2.2.2.2.2.2.2=(A[k]).1.2.2.2.2.2.2.2.map ee from rfl,au (l:=(A[k]).1.2.2.2.2.2.2.2.map ee) (by rw[ae4];exact J),au5,show(ee (A[k]).1.2.2.2.2.2.2.2[j]).2=((A[k]).1.2.2.2.2.2.2.2[j]).2.map aO from rfl,D];rfl
theorem Y9 (s:List UInt8) (x:aV): ∀(D:List (List UInt8)) (l:List aV),x∈jk s l D<->x∈l\/ ∃f∈D,x=(s,f)
 |[],l=>⟨.inl,fun h=>h.elim id fun⟨_,h,_⟩=>(av6 h).elim⟩
 |f::t,l=>by
  show x∈jk s (eK l (s,f)) t<->_;rw[Y9 s x t,Z8];constructor
  · rintro((h |h) |⟨g,h,e⟩)
    · exact .inl h
    · exact .inr ⟨f,.head _,h⟩
    · exact .inr ⟨g,.tail _ h,e⟩
  · rintro(h |⟨g,h,e⟩)
    · exact .inl (.inl h)
    · rcases at3.1 h with q |q
      · exact .inl (.inr (q▸e))
      · exact .inr ⟨g,q,e⟩
theorem qq (x:aV): ∀(ns:List al) (l:List aV),x∈eZ l ns<->x∈l\/ ∃n∈ns,Ck x n
 |[],l=>⟨.inl,fun h=>h.elim id fun⟨_,h,_⟩=>(av6 h).elim⟩
 |n::t,l=>by
  show x∈eZ (jk n.1 (eK l (n.1,[])) n.2.2) t<->_;rw[qq x t,Y9,Z8];constructor
  · rintro(((h |h) |⟨g,h,e⟩) |⟨g,h,e⟩)
    · exact .inl h
    · exact .inr ⟨n,.head _,by rw[h];exact⟨rfl,.inl rfl⟩⟩
    · exact .inr ⟨n,.head _,by rw[e];exact⟨rfl,.inr h⟩⟩
    · exact .inr ⟨g,.tail _ h,e⟩
  · rintro(h |⟨g,h,e⟩)
    · exact .inl (.inl (.inl h))
    · rcases at3.1 h with q |q
      · subst q;rcases e with⟨F,D |D⟩
        · exact .inl (.inl (.inr (Prod.ext F D)))
        · exact .inl (.inr ⟨x.2,D,Prod.ext F rfl⟩)
      · exact .inr ⟨g,q,e⟩
theorem XF (s:List UInt8): ∀(D:List (List UInt8)) (l:List aV),l.Nodup->(jk s l D).Nodup
 |[],l,h=>h
 |f::t,l,h=>XF s t _ (X5 h)
theorem QG: ∀(ns:List al) (l:List aV),l.Nodup->(eZ l ns).Nodup
 |[],l,h=>h
 |n::t,l,h=>QG t _ (XF _ _ _ (X5 h))
theorem Z7 (l:List aV) (x:aV):l<+:eK l x:=by
 unfold eK;split
 · exact List.prefix_refl _
 · exact List.prefix_append _ _
theorem Y8 (s:List UInt8): ∀(D:List (List UInt8)) (l:List aV),l<+:jk s l D
 |[],l=>List.prefix_refl _
 |f::t,l=>(Z7 l (s,f)).trans (Y8 s t _)
theorem Rs: ∀(ns:List al) (l:List aV),l<+:eZ l ns
 |[],l=>List.prefix_refl _
 |n::t,l=>((Z7 l _).trans (Y8 n.1 n.2.2 _)).trans (Rs t _)
theorem aqk {α:Type} {l F:List α} (h:l<+:F) {j:Nat} (D:j<l.length):F[j]? =some l[j]:=by obtain⟨t,rfl⟩:=h;rw[List.getElem?_append_left D,ae9 D]
variable {A:List aq} {R:List al} {choice:List Int} {at_:Nat} {s:List aV×List al}
theorem lq.first (hR:bM R):lq A R choice 0 (eZ [] R,R) where
 once:=QG R [] List.nodup_nil
 named:=fun x F=>((qq x R []).1 F).elim (fun h=>(av6 h).elim) id
 back:=fun n D x F=>(qq x R []).2 (.inr ⟨n,D,F⟩)
 roots:=fun n D=>D
 src:=fun n D=>.inl D
 done:=fun j x h=>absurd h (Nat.not_lt_zero j)
 ind:=fun P h1 h2 x F=>((qq x R []).1 F).elim (fun h=>(av6 h).elim) (fun⟨n,D,e⟩=>h1 n D x e)
 Cn:=hR.many
 place:=ae6 _
theorem lq.next (hA:bu A) (h:lq A R choice at_ s) (J:at_<s.1.length):lq A R choice (at_+1) (eZ s.1 (eQ A choice s.1[at_]),s.2++eQ A choice s.1[at_]) where
 once:=QG _ _ h.once
 named:=fun x F=>by
  rcases(qq x _ _).1 F with q |⟨n,D,e⟩
  · obtain⟨n,D,e⟩:=h.named x q;exact⟨n,as3.2 (.inl D),e⟩
  · exact⟨n,as3.2 (.inr D),e⟩
 back:=fun n D x F=>by
  rcases as3.1 D with q |q
  · exact(qq x _ _).2 (.inl (h.back n q x F))
  · exact(qq x _ _).2 (.inr ⟨n,q,F⟩)
 roots:=fun n D=>as3.2 (.inl (h.roots n D))
 src:=fun n D=>by
  rcases as3.1 D with q |q
  · rcases h.src n q with a |⟨t,M,a⟩
    · exact .inl a
    · exact .inr ⟨t,(qq t _ _).2 (.inl M),a⟩
  · exact .inr ⟨_,(qq _ _ _).2 (.inl (ae3 J)),q⟩
 done:=fun j x N F n D=>by
  have hp:=aqk (Rs (eQ A choice s.1[at_]) s.1) (j:=j) (by omega)
  have F:(eZ s.1 (eQ A choice s.1[at_]))[j]? =some x:=F;rw[hp] at F;have F:=Option.some.inj F;by_cases e:j=at_
  · subst e;rw[F];exact as3.2 (.inr D)
  · exact as3.2 (.inl (h.done j x (by omega) (by rw[<-F];exact ae9 (by omega)) n D))
 ind:=fun P h1 h2 x F=>by
  have h0:=h.ind P h1 h2;rcases(qq x _ _).1 F with q |⟨n,D,e⟩
  · exact h0 x q
  · exact h2 _ (h0 _ (ae3 J)) n D x e
 Cn:=by have h1:=h.Cn;have h2:=(Sp hA choice s.1[at_]).1;show(s.2++_).length<=_;rw[as0];omega
 place:=by have:s.1.length<=(eZ s.1 (eQ A choice s.1[at_])).length:=(Rs _ _).length_le;show at_+1<=(eZ s.1 (eQ A choice s.1[at_])).length;omega
theorem QM (hA:bu A) (hR:bM R) (hc:choice.length<=1000000): ∀m at_ (s:List aV×List al),at_+m=80000->lq A R choice at_ s->
  ab D' (A,choice,(at_:Int),s.2,s.1,())=some ((k8 A choice m at_ s).2,(k8 A choice m at_ s).1,())/\
  ab DH ((at_:Int),A.map bN,cX s.1,fw s.1,s.2.map aO,fQ s.1,choice,())=some (A.map bN,cX (k8 A choice m at_ s).1,fw (k8 A choice m at_ s).1,(k8 A choice m at_ s).2.map aO,fQ (k8 A choice m at_ s).1,choice,())/\
  lq A R choice (k8 A choice m at_ s).1.length (k8 A choice m at_ s):=by
 intro m
 induction m with
 |zero=>intro at_ s hm h;have:=h.len hA hR;have:=h.place;omega
 |succ m U=>
  intro at_ s hm h;have hlen:=h.len hA hR;have Z:=h.place;have Y:=h.Cn;have O:=RR s.1;by_cases D:at_<s.1.length
  · have e:k8 A choice (m+1) at_ s=k8 A choice m (at_+1) (eZ s.1 (eQ A choice s.1[at_]),s.2++eQ A choice s.1[at_]):=by
      rw[k8,ae9 D]
    rw[e];obtain⟨i1,i2,i3⟩:=U (at_+1) _ (by omega) (h.next hA D)
    have N:=Sp hA choice s.1[at_];have c1: ∀{R:Type} (q:Option R),J (0<=((at_:Nat):Int)/\((at_:Nat):Int)<(s.1.length:Int)) q=q:=fun q=>ai ⟨by omega,by omega⟩
    have c2: ∀{R:Type} (q:Option R),J (0<=((at_:Nat):Int)/\((at_:Nat):Int)<((fQ s.1).length:Int)) q=q:=fun q=>ai ⟨by omega,by omega⟩
    refine⟨?_,?_,i3⟩
    · rw[<-i1];refine aZ ?_;simp only[D',dY (show(at_:Int)<(s.1.length:Int) by omega),cond_true,c1,as1,ae9 D,ae2,apq A hA choice hc,aab (eQ A choice s.1[at_]) (fun n M=>FG (N.2 n M)) s.1 s.2 (by omega) (by omega) (by omega),aH,aw (show at_+1<=4611686018427387904 by omega)]
    · rw[<-i2];refine aZ ?_;have F:(fQ s.1)[at_]? =some (s.1[at_],decide ((s.1[at_]).2=[])):=by unfold fQ;rw[List.getElem?_map,ae9 D];rfl
      simp only[DH,dY (show(at_:Int)<((fQ s.1).length:Int) by omega),cond_true,c2,as1,F,ae2,aoY A hA choice hc s.1[at_] s.1 s.2 (by omega) (by omega),aH,aw (show at_+1<=4611686018427387904 by omega)]
  · have e:k8 A choice (m+1) at_ s=s:=by rw[k8,ay2 (by omega)]
    have:at_=s.1.length:=by omega
    subst this;rw[e];refine⟨bk ?_,bk ?_,h⟩
    · simp only[D',as2,decide_false,cond_false]
    · simp only[DH,O,as2,decide_false,cond_false]
theorem aqv (a b c d e):ab yE (a,b,c,e,d,())=(ab PE (a,b,c,d,e,())).map fun r:List al×Int×List al×List aV×Unit=>(r.1,r.2.1,r.2.2.2.1,r.2.2.1,()):=
 o5 (φ:=fun v:List al×Int×Int×List al×List aV×Unit=>(v.1,v.2.1,v.2.2.1,v.2.2.2.2.1,v.2.2.2.1,())) (ψ:=fun r:List al×Int×List al×List aV×Unit=>(r.1,r.2.1,r.2.2.2.1,r.2.2.1,())) (fun v=>by simp only[yE,PE,o0,o8,nU,av9,Sum.map_inl,Sum.map_inr,tU]) (a,b,c,d,e,())
theorem aqu (a b d e):ab yD (a,b,e,d,())=(ab PD (a,b,d,e,())).map fun r:List al×List aV×Unit=>(r.2.1,r.1,()):=
 o5 (φ:=fun v:List al×Int×List al×List aV×Unit=>(v.1,v.2.1,v.2.2.2.1,v.2.2.1,())) (ψ:=fun r:List al×List aV×Unit=>(r.2.1,r.1,())) (fun v=>by simp only[yD,PD,o0,o8,nU,av9,Sum.map_inl,Sum.map_inr,tU,aqv]) (a,b,d,e,())
theorem ao4 (R:List al):yK R [] []=(Jk R).map fun r=>(r.2,r.1):=by unfold yK Jk;rw[aqu,tU,nU];rfl
theorem E3 (hA:bu A) (hR:bM R) (hc:choice.length<=1000000):tF A R choice=some (bS A R choice):=by
 have h:=(QM hA hR hc 80000 0 (eZ [] R,R) rfl (lq.first hR)).1;have hm:=hR.many;have h2:=aab R (fun n J=>FG (hR.dO n J)) [] [] (by omega) (ae6 _) (ae6 _)
 rw[ao4,Option.map_eq_some_iff] at h2;obtain⟨r,F,D⟩:=h2;have e:r=(R,eZ [] R):=Prod.ext (congrArg (·.2) D) (congrArg (·.1) D)
 unfold tF;rw[F,e,ae2];rw[show ab D' (A,choice,0,R,eZ [] R,())=_ from h];rfl
theorem am5 (hA:bu A) (hR:bM R) (hc:choice.length<=1000000):Kn (A.map bN) (R.map aO) choice=some (choice,A.map bN,fQ (bS A R choice).1,(bS A R choice).2.map aO,fw (bS A R choice).1,cX (bS A R choice).1):=by
 have h:=(QM hA hR hc 80000 0 (eZ [] R,R) rfl (lq.first hR)).2.1;have hm:=hR.many;have e:=aaa (A.map bN) choice R (fun n D=>FG (hR.dO n D)) [] [] (by omega) (ae6 _) (ae6 _)
 have e:vz (R.map aO) (A.map bN) choice [] [] [] []=_:=e;unfold Kn;rw[e,ae2];simp only[List.nil_append];rw[show ab DH (0,A.map bN,cX (eZ [] R),fw (eZ [] R),R.map aO,fQ (eZ [] R),choice,())=_ from h];rfl
theorem qi (hA:bu A) (hR:bM R) (hc:choice.length<=1000000):lq A R choice (bS A R choice).1.length (bS A R choice):=(QM hA hR hc 80000 0 (eZ [] R,R) rfl (lq.first hR)).2.2
theorem XJ {α:Type} (p:α->Bool): ∀(l:List α) (k:Nat),aN (fun _ x=>if p x=true then[x] else[]) l k=l.filter p
 |[],_=>rfl
 |x::t,k=>by
  show(if p x=true then[x] else[])++aN _ t (k+1)=_
  rw[XJ p t (k+1),List.filter_cons];split<;>rfl
theorem Zk {α β:Type} [DecidableEq α] (x:α) (y:β): ∀(l:List α) (k:Nat),l.Nodup->aN (fun _ z=>if decide (z=x)=true then[y] else[]) l k=if x∈l then[y] else[]
 |[],_,_=>rfl
 |z::t,k,h=>by
  have h:=List.nodup_cons.1 h;show(if decide (z=x)=true then[y] else[])++aN _ t (k+1)=_
  rw[Zk x y t (k+1) h.2];by_cases e:z=x
  · subst e;rw[if_pos (decide_eq_true rfl),if_neg h.1,if_pos (.head _)];rfl
  · rw[if_neg (by simpa using e)]
    by_cases m:x∈t
    · rw[if_pos m,if_pos (.tail _ m)];rfl
    · rw[if_neg m,if_neg (fun q=>(at3.1 q).elim (fun a=>e a.symm) m)];rfl
theorem true_eq (k:Nat) (v:List Bool) (hk:k<=1000000):wk ((k+1:Nat):Int) v=some (v.getD k false):=by
 have D:AE ((k+1:Nat):Int)=some ((k+1:Nat):Int):=by unfold AE;rw[ai (bd (by omega)),if_neg (by omega)]
 unfold wk;rw[D,ae2,dY (show(1:Int)<=((k+1:Nat):Int) by omega),cond_true,dY (show(0:Int)<((k+1:Nat):Int) by omega)]
 by_cases h:k<v.length
 · rw[dY (show((k+1:Nat):Int)<=(v.length:Int) by omega),cond_true,show((k+1:Nat):Int) - 1=(k:Int) by omega,aw (show k<=4611686018427387904 by omega),au h]
   rw[aw8,ae9 h];simp
 · rw[dN (show¬((k+1:Nat):Int)<=(v.length:Int) by omega),cond_false,aw8,ay2 (by omega)];rfl
def eR (A:List aq) (v:List Bool):List Int:=aN (fun i (_:aq)=>if v.getD i false=true then[(i:Int)] else[]) A 0
theorem SL (A:List aq) (v:List Bool):(eR A v).length<=A.length:=by
 have:=iU (e:=fun i (_:aq)=>if v.getD i false=true then[(i:Int)] else[]) (m:=1) A 0 (fun j h=>rR _ _)
 unfold eR;omega
theorem SK {A:List aq} {v:List Bool} {i:Int}:i∈eR A v<-> ∃k,k<A.length/\i=(k:Int)/\v.getD k false=true:=by
 unfold eR;rw[dG];constructor
 · rintro⟨k,hk,h⟩;split at h
   · exact⟨k,hk,at5.1 h,‹_›⟩
   · cases h
 · rintro⟨k,hk,rfl,h⟩;exact⟨k,hk,by rw[if_pos h];exact .head _⟩
variable {A:List aq} {R:List al} {choice:List Int}
theorem aog (hA:bu A) (v:List Bool):ab CW (v,((bn A R).1.length:Int),0,bn A R,[],())=some (bn A R,eR A v,()):=by
 have hs:=hA.many;have M:(bn A R).1.length=A.length:=by rw[nV,ae4]
 have:=eX (f:=CW) A (fun i (_:aq)=>if v.getD i false=true then[(i:Int)] else[]) 1 0 (fun k acc=>(v,(A.length:Int),(k:Int),bn A R,acc,())) (fun acc=>(bn A R,acc,())) (fun k h=>rR _ _) (fun k hk acc N=>?_) (fun acc=>?_) [] (ae6 _) rfl
 · rw[M];exact this
 · have D:=aH k;have F: ∀{R:Type} (q:Option R),J (aa .i64 ((k+1:Nat):Int)) q=q:=fun q=>aw (show k+1<=4611686018427387904 by omega)
   simp only[CW,dY (show((k:Nat):Int)<(A.length:Int) by omega),cond_true,D,F,true_eq k v (by omega),ae2]
   rcases av8 (v.getD k false) with e |e
   · rw[e,if_pos rfl,cond_true,ib (by omega)]
   · rw[e,if_neg (by decide),cond_false,at0]
 · simp only[CW,as2,decide_false,cond_false]
theorem aoh (hA:bu A) (W:bf) (v:List Bool) (hv:v.length<=1000): ∀n k (acc:List Int),A.length - k=n->k<=A.length->acc.length<=k->
  ab yC (v,(k:Int),A,R,W,acc,())=some (A,R,W,acc++aN (fun i (_:aq)=>if v.getD i false=true then[(i:Int)] else[]) (A.drop k) k,()):=by
 have hs:=hA.many;intro n
 induction n with
 |zero=>
  intro k acc Y hk M;obtain rfl:k=A.length:=by omega
  rw[List.drop_length];show _=some (A,R,W,acc++[],());rw[at0];refine bk ?_;simp only[yC,as2,decide_false,cond_false]
 |succ n Z=>
  intro k acc Y hk M;have F:k<A.length:=by omega
  have N:=aH k;have O: ∀{R:Type} (q:Option R),J (aa .i64 ((k+1:Nat):Int)) q=q:=fun q=>aw (show k+1<=4611686018427387904 by omega)
  by_cases D:k<v.length
  · have U:v.getD k false=v[k]:=by rw[aw8,ae9 D];rfl
    have i1:=Z (k+1) (acc++if v.getD k false=true then[(k:Int)] else[]) (by omega) F (by have:=rR (v.getD k false) (k:Int);rw[as0];omega)
    rw[at8] at i1;rw[List.drop_eq_getElem_cons F];show _=some (A,R,W,acc++((if v.getD k false=true then[(k:Int)] else[])++aN _ (A.drop (k+1)) (k+1)),())
    rw[<-i1];refine aZ ?_;simp only[yC,dY (show((k:Nat):Int)<(A.length:Int) by omega),dY (show((k:Nat):Int)<(v.length:Int) by omega),cond_true,au D,N,O,U]
    rcases av8 v[k] with e |e
    · rw[e,if_pos rfl,cond_true,ib (by omega)]
    · rw[e,if_neg (by decide),cond_false,at0]
  · rw[SC (A.drop k) k (fun j hj=>by rw[aw8,ay2 (by omega)];rfl),at0]
    refine bk ?_;simp only[yC,dY (show((k:Nat):Int)<(A.length:Int) by omega),dN (show¬((k:Nat):Int)<(v.length:Int) by omega),cond_true,cond_false]
theorem aaM: ∀(l:List aV) (k:Nat),aN (fun _ (t:aV)=>if decide (t.2=[])=true then[t.1] else[]) l k=cX l
 |[],_=>rfl
 |t::l,k=>by
  show(if decide (t.2=[])=true then[t.1] else[])++aN _ l (k+1)=_
  rw[aaM l (k+1)];unfold cX;rw[List.filter_cons];split<;>rfl
theorem Se (s:List aV×List al) (hs:s.1.length<=100000):yN s=some (cX s.1):=by
 unfold yN;have:=eX (f:=Dq) s.1 (fun _ (t:aV)=>if decide (t.2=[])=true then[t.1] else[]) 1 0 (fun k acc=>((k:Int),s.1,s.2,acc,())) (fun acc=>(acc,())) (fun k h=>rR _ _) (fun k hk acc M=>?_) (fun acc=>?_) [] (ae6 _) rfl
 · rw[show ab Dq (0,s.1,s.2,[],())=_ from this,aaM];rfl
 · have D:=aH k;have F: ∀{R:Type} (q:Option R),J (aa .i64 ((k+1:Nat):Int)) q=q:=fun q=>aw (show k+1<=4611686018427387904 by omega)
   simp only[Dq,dY (show((k:Nat):Int)<(s.1.length:Int) by omega),cond_true,au hk,D,F]
   rcases av8 (decide ((s.1[k]).2=[])) with e |e
   · rw[e,if_pos rfl,cond_true,ib (by omega)]
   · rw[e,if_neg (by decide),cond_false,at0]
 · simp only[Dq,as2,decide_false,cond_false]
def Bk (A:List aq) (l:List (List UInt8)) (i:Int):Bool:=match A[i.toNat]? with|some y=>cw l y.1.1 |none=>false
theorem Tg {l:List (List UInt8)} {k:Nat} (hk:k<A.length):Bk A l (k:Int)=cw l (A[k]).1.1:=by unfold Bk;rw[as1,ae9 hk]
def tT (A:List aq) (R:List al) (v:List Bool):List Int:=(eR A v).filter (Bk A (cX (bS A R (eR A v)).1))
theorem arP {d:List (List UInt8)} {d1:pt} {l:List Int} (U:l.length<1000000000) (g:Int->Bool) (M: ∀i∈l,CO i d d1=some (g i)):Iq d d1 l=some (l.filter fun x=> !g x):=by
 unfold Iq O9
 have H:=abm (f:=Im) l g (fun j=>(l,d,d1,(l.length:Int),j,())) (fun j D=>by
  have F: ∀{R:Type} (q:Option R),J (aa .i64 ((j:Int)+1)) q=q:=fun q=>aw (n:=j+1) (by omega)
  have O:=M _ (ae3 D);simp only[Im,dY (show((j:Nat):Int)<(l.length:Int) by omega),cond_true,au D,ae2,O,F]
  rcases av8 (g l[j]) with e |e
  · rw[e,if_pos rfl];rfl
  · rw[e,if_neg (by decide)];rfl) (by simp only[Im,as2,decide_false,cond_false])
 rcases H with⟨e,h⟩ |⟨k,hk,e,h1,h2⟩
 · rw[e,h];rfl
 · rw[e];simp only[ae2,dN (show¬((k:Int)= -1) by omega),cond_false]
   refine abz (f:=Il) l U g (fun i j o=>(d,d1,i,j,o,())) (fun i j o hi D Y Z=>?_) (fun i o Y=>?_) k hk h1 h2
   · have c1: ∀{R:Type} (q:Option R),J (0<=((j:Nat):Int)/\((j:Nat):Int)<(o.length:Int)) q=q:=fun q=>ai ⟨by omega,by omega⟩
     have c2: ∀{R:Type} (q:Option R),J (0<=((i:Nat):Int)/\((i:Nat):Int)<(o.length:Int)) q=q:=fun q=>ai ⟨by omega,by omega⟩
     have N: ∀{R:Type} (q:Option R),J (aa .i64 ((i:Int)+1)) q=q:=fun q=>aw (n:=i+1) (by omega)
     have F: ∀{R:Type} (q:Option R),J (aa .i64 ((j:Int)+1)) q=q:=fun q=>aw (n:=j+1) (by omega)
     have g1:o[i]? =some (o[i]'(by omega)):=ae9 (by omega)
     simp only[Il,dY (show((j:Nat):Int)<(o.length:Int) by omega),cond_true,c1,as1,Z,ae2,M _ (ae3 D),c2,g1,N,F]
     rcases av8 (g l[j]) with e |e
     · rw[e,if_pos rfl];rfl
     · rw[e,if_neg (by decide)];rfl
   · simp only[Il,dN (show¬(l.length:Int)<(o.length:Int) by omega),cond_false]
theorem Yh (hA:bu A) (hR:bM R) (v:List Bool):Dd (bn A R) v=some (tT A R v):=by
 have hs:=hA.many;have J:=SL A v;have N:=(qi (choice:=eR A v) hA hR (by omega)).len hA hR
 have M:=FI (bS A R (eR A v)).1;have F:KL (bn A R).1 (bn A R).2.1 (eR A v)=some ((cX (bS A R (eR A v)).1,fw (bS A R (eR A v)).1),eR A v):=by unfold KL;rw[nV,Tp,am5 hA hR (by omega)];rfl
 unfold Dd;rw[aog hA v,ae2];simp only[F,ae2,ai trivial];rw[arP (by omega) (fun i=> !Bk A (cX (bS A R (eR A v)).1) i) (fun i D=>?_),ae2]
 · unfold tT;congr 2;funext x;rw[Bool.not_not]
 · obtain⟨k,hk,rfl,_⟩:=SK.1 D;unfold CO;rw[Tg hk,nV,kC hk,show(bN A[k]).1.1=(A[k]).1.1 from rfl,zo _ _ (by omega)];rfl
theorem ao3 {l:List aV} (h:l.Nodup):(cX l).Nodup:=by unfold cX;refine List.pairwise_map.2 (List.Pairwise.imp_of_mem (fun{a b} D F q e=>q ?_) (h.filter fun t=>decide (t.2=[])));have D:=of_decide_eq_true (ay8.1 D).2;have F:=of_decide_eq_true (ay8.1 F).2;exact Prod.ext e (D.trans F.symm)
theorem amn (hA:bu A) (hR:bM R) (v:List Bool) (hv:v.length<=1000):JP (ij A R) v=some (tT A R v):=by
 have hs:=hA.many;have hl:=SL A v;have O:=qi (choice:=eR A v) hA hR (by omega)
 have ht:=O.len hA hR;have hn:=FI (bS A R (eR A v)).1;have M:=ao3 O.once;have h1:=aoh (R:=R) hA (ax A R) v hv A.length 0 [] rfl (ae6 _) (ae6 _);unfold JP;rw[show ab yC (v,0,(ij A R).1,(ij A R).2.1,(ij A R).2.2,[],())=some (A,R,ax A R,eR A v,()) from h1,ae2]
 simp only[E3 hA hR (show(eR A v).length<=1000000 by omega),ae2,Se _ (show(bS A R (eR A v)).1.length<=100000 by omega)]
 unfold tT;generalize hN:cX (bS A R (eR A v)).1=N at M hn⊢;have:=eX (f:=Df) (eR A v) (fun _ i=>if Bk A N i=true then[i] else[]) 1 0 (fun k acc=>(eR A v,N,(k:Int),A,R,ax A R,acc,())) (fun acc=>(acc,())) (fun k h=>rR _ _) (fun k hk acc ha=>?_) (fun acc=>?_) [] (ae6 _) rfl
 · rw[show ab Df (eR A v,N,0,A,R,ax A R,[],())=_ from this,XJ];rfl
 · have U:=aH k;have Y: ∀{R:Type} (q:Option R),J (aa .i64 ((k+1:Nat):Int)) q=q:=fun q=>aw (show k+1<=4611686018427387904 by omega)
   obtain⟨j,F,e,_⟩:=SK.1 (ae3 hk);have D:=eX (f:=Dg) N (fun _ s=>if decide (s=(A[j]).1.1)=true then[(j:Int)] else[]) 1 acc.length (fun i acc=>(eR A v,N,(k:Int),(i:Int),A,R,ax A R,acc,())) (fun acc=>(eR A v,N,(k:Int),A,R,ax A R,acc,())) (fun k h=>rR _ _) (fun i hi ac an=>?_) (fun acc=>?_) acc (ae5 _) rfl
   · have D:ab Dg (eR A v,N,(k:Int),0,A,R,ax A R,acc,())=_:=D;simp only[Df,dY (show((k:Nat):Int)<((eR A v).length:Int) by omega),cond_true,D,ae2,U,Y,Zk _ _ _ _ M]
     rw[e,Tg F];by_cases g:(A[j]).1.1∈N
     · rw[if_pos g,if_pos ((qD _ _).2 g)]
     · rw[if_neg g,if_neg fun q=>g ((qD _ _).1 q)]
   · have ah:=aH i;have Z: ∀{R:Type} (q:Option R),J (aa .i64 ((i+1:Nat):Int)) q=q:=fun q=>aw (show i+1<=4611686018427387904 by omega)
     simp only[Dg,dY (show((i:Nat):Int)<(N.length:Int) by omega),cond_true,au hi,au hk,e,au F,ah,Z]
     rcases av8 (decide (N[i]=(A[j]).1.1)) with g |g
     · rw[g,if_pos rfl,cond_true,ib (by omega)]
     · rw[g,if_neg (by decide),cond_false,at0]
   · simp only[Dg,as2,decide_false,cond_false]
 · simp only[Df,as2,decide_false,cond_false]
theorem aho (x) (v:List Bool):I' x v=some true:=by
 obtain⟨⟨⟨p,t,N⟩,m⟩,rfl⟩: ∃y,y=x:=⟨x,rfl⟩;have F:=ET;unfold I';rcases RF p t N m with⟨A,R,hA,hR,hT,_,D⟩ |D
 · simp only[D,ae2,F,ae8,cond_false];by_cases e:500<v.length
   · rw[dY (show(500:Int)<(v.length:Int) by omega)];rfl
   · have J:(tT A R v).length<=1000000000:=by
       have h1:=SL A v;have h2:=hA.many;have Z:=List.length_filter_le (Bk A (cX (bS A R (eR A v)).1)) (eR A v);unfold tT;omega
     rw[dN (show¬(500:Int)<(v.length:Int) by omega),cond_false,Yh hA hR v,ae2,amn hA hR v (by omega),ae2,Fh _ J];rfl
 · obtain⟨o,M,b,rfl⟩:=jj D;obtain⟨O,U,Y⟩:=b;simp only[M,ae2,F,ae8,cond_false]
abbrev GY:Ty:=.pair jB .bool
abbrev vo:List (Nat×SO):=[(1000,.var 275 [Cg,BE,.own 1003,.own 1004,.own 1005,.own 1006]),(1002,dI),(1003,dJ),(1004,sU),(1005,jw),(1006,.row 372 GY)]
abbrev ad3:SO:=.var 134 [bj,bj,bj,bj,sP,iD,iD,.v (.sl s8)]
abbrev rk:SO:=.row 84 jB
abbrev Ov:List (Nat×SO):=[(2,.var 182 [.own 1001,BE]),(4,.var 182 pY),(1001,rk),xu]
abbrev Ox:List (Nat×SO):=[(2,.var 182 [.own 30,.own 20]),(4,.var 182 pY),(20,jC),(30,rk)]
abbrev u5:SO:=.var 182 [s7,iD]
abbrev Om:Nat×SS:=(1,.fn 65 [] [NW,.v (.ptr Cr)])
abbrev sW:SS:=.c (.v (.sl .bool))
abbrev rq:Nat×SS:=(7,.c (.ptr 7 0))
abbrev aeb:SO:=.var 275 [Cg,.own 1040,.own 612,.own 613,.own 614,.own 615]
abbrev aeS:List (Nat×SO):=[(12,aeb),(612,dJ),(613,sU),(614,jw),(615,.row 372 GY),(1040,dI)]
abbrev aez:Shape:=⟨[bR,(5,eV),(6,.c (.own 72)),(8,eu),nk],[(2,kO),(72,dI)]⟩
abbrev aeE:List (Nat×Nat):=[(1000,1000),(1002,1002),(1003,1003),(1004,1004),(1005,1005),(1006,1006)]
abbrev ad6:List (Nat×SO):=[(6,.var 182 pY),(7,.var 182 [.own 211,.own 11]),(11,jC),(211,rk)]
abbrev ad0:Shape:=⟨[(0,re),(1,jx),(2,.c (.own 1040))],[(1040,dI)]⟩
abbrev aej:List (Nat×Nat):=[(1000,12),(1002,1040),(1003,612),(1004,613),(1005,614),(1006,615)]
abbrev Vd:Shape:=⟨[gy,nt,pQ],[]⟩
abbrev U1:bE:={cut:=[vd,(.ret,Hx)]}
abbrev N2:List (Nat×SS):=(nt::bR::ga::eB)
abbrev adz:Shape:=⟨[(4,.c (.own 1000))],[(1000,rk)]⟩
def K3:FS:=mkG [] [lI,(26,{loop:=some ⟨(dy::bR::eB),[(2,ad3)]⟩})] 72 ⟨[(0,.st xU),dy],[]⟩ dA fun x=>tM x.1 x.2.1
def Kp:FS:=mkHh [Qq,PS,YA] [(254,{kf:=[(0,.q [6]),(2,.q [8]),(3,rl),(5,.u [4] false)]}),(1012,{kf:=[(0,.q [6]),(1,.q [8]),(2,rl),(4,.u [4] false)]})] 24 ⟨[B4],[]⟩ [(false,⟨[Vr,(3,uP),(3000004,Ou),(5,xx)],[]⟩),(false,⟨[Vr,(3,.c .np),(3000004,Ou),(5,nx)],[]⟩)] (id) (id) (fun _=>rfl) (fun x=>oW x.1)
def an4:FS:=mkG [] [] 136 GJ rm fun x=>AE x.1
def Yg:FS:=mkG [an4] [] 62 ⟨[nr,(1,sW)],[]⟩ di fun x=>wk x.1 x.2.1
def agO:FS:=mkG [] [lI,(26,{loop:=some ⟨(mm::cK::gR),[(3,.var 81 [bj,bj])]⟩})] 392 UY dA fun x=>PO x.1 x.2.1
def agf:FS:=mkG [agO] [] 327 UY di fun x=>IZ x.1 x.2.1
def V6:FS:=mkHh [agf,yh] [(3,{cut:=[(.normal,⟨[],vo⟩)]}),(6,{loop:=some ⟨(cm::(9,jx)::sT),vo⟩}),(3276,{rd:=[32]}),(3279,{cut:=[(.normal,⟨(cm::(9,jx)::sT),vo⟩)]}),(6558,{loop:=some ⟨[cm,eM,(9,jx),lA,sK,(61,eu),(62,aW),(63,aW)],((5,.var 165 [bj,sR,oN])::vo)⟩}),(1678950,{rd:=[77]})] 225 ⟨[cm,(1,jx)],vo⟩ [(false,⟨[],vo⟩)] (fun o=>(o.1,o.2.1,o.2.2.1,o.2.2.2.1,o.2.2.2.2.1,o.2.2.2.2.2.1)) (fun r=>(r.1,r.2.1,r.2.2.1,r.2.2.2.1,r.2.2.2.2.1,r.2.2.2.2.2,())) (fun _=>rfl) (fun x=>vz x.1 x.2.1 x.2.2.1 x.2.2.2.1 x.2.2.2.2.1 x.2.2.2.2.2.1 x.2.2.2.2.2.2.1)
def aiA:FS:=mkG [] [(13,U1),(26,{loop:=some ⟨((0,re)::(2,dT)::(9,eV)::sT),[]⟩})] 328 ⟨((0,re)::gz::js),[]⟩ pT fun x=>Ko x.1 x.2.1 x.2.2.1
def ago:FS:=mkHh [V6,Jr,aiA] [(6,{rd:=[17]}),(238,{ow:=[63],ps:=[(63,aeE)]}),(1918,{ow:=[46],ps:=[(46,aeE)]})] 226 ⟨[cm,(1,.st GY)],vo⟩ [(false,⟨[],vo⟩)] (fun o=>(o.1,o.2.1,o.2.2.1,o.2.2.2.1,o.2.2.2.2.1,o.2.2.2.2.2.1)) (fun r=>(r.1,r.2.1,r.2.2.1,r.2.2.2.1,r.2.2.2.2.1,r.2.2.2.2.2,())) (fun _=>rfl) (fun x=>I4 x.1 x.2.1 x.2.2.1 x.2.2.2.1 x.2.2.2.2.1 x.2.2.2.2.2.1 x.2.2.2.2.2.2.1)
def aiz:FS:=mkHh [V6,ago] [(14,{pre:=[.da 12 2 612 (.row [] 9 .str []),.da 12 3 613 (.row [] 81 jB []),.da 12 4 614 (.row [] 165 oL []),.da 12 5 615 (.row [] 372 GY [])],ow:=[15],ps:=[(15,aej)]}),(61,{cut:=[(.normal,⟨[(7,GU)],aeS⟩)]}),(122,{loop:=some ⟨((7,GU)::nn),aeS⟩}),(1956,{ow:=[33],ps:=[(33,aej)]})] 137 ad0 [(false,⟨[(6,GU)],[(1040,dI),(12,aeb),(615,.row 372 GY),(614,jw),(613,sU),(612,dJ)]⟩)] (fun o=>(o.1,o.2.1,o.2.2.1,o.2.2.2.1,o.2.2.2.2.1,o.2.2.2.2.2.1)) (fun r=>(r.1,r.2.1,r.2.2.1,r.2.2.2.1,r.2.2.2.2.1,r.2.2.2.2.2,())) (fun _=>rfl) (fun x=>Kn x.1 x.2.1 x.2.2.1)
def ai3:FS:=mkHh [aiz] [(6,{ow:=[10],ps:=[(10,[(12,10),(612,810),(613,610),(614,410),(615,210),(1040,1040)])]}),(7,{pre:=[.ba 810,.ba 610]})] 63 ad0 [(false,⟨[(3000006,.st (.pair sQ sO))],[(1040,dI)]⟩)] (fun o=>(o.1,o.2.1)) (fun r=>(r.1,r.2,())) (fun _=>rfl) (fun x=>KL x.1 x.2.1 x.2.2.1)
def V3:FS:=mkG [yh] [] 65 ⟨[nr,(1,.c NW),(2,.c (.v (.ptr Cr)))],[]⟩ di fun x=>CO x.1 x.2.1 x.2.2.1
def afp:FS:=mkG [V3] [lI,(26,{loop:=some ⟨(kF::Om::gR),[]⟩})] 138 ⟨[kF,Om],[]⟩ dA fun x=>O9 x.1 x.2.1 x.2.2.1
def afl:FS:=mkG [V3,afp] [(6,{rd:=[10]}),adO,(122,{loop:=some ⟨(rf::Om::BF),xy⟩}),(126,{cn:=[(2,[5000])]})] 64 ⟨[rf,Om],xy⟩ [(false,⟨[(4,Hm)],xy⟩)] fun x=>Iq x.1 x.2.1 x.2.2.1
def Wc:FS:=mkG [ai3,afl,Yg] [(61,{cut:=[(.normal,⟨[bR,B1],[(2,.var 40 [.v Cr]),(25,dI)]⟩)]}),(62,{ow:=[36],kf:=[(0,kG),(2,bh),(3,bh),(4,kG),(6,bh),(7,bh),(9,.u [25] false),(11,.n 7),(12,.u [7] false)],ps:=[(36,[(1040,25)])]}),(122,{pre:=[.dz 5 25 (.row [] 3 eF [])],loop:=some ⟨((1,sW)::bR::B1::BW),[(2,.var 40 [.v Cr]),(25,dI)]⟩}),(126,{un:=[.s 5],pre:=[.vk 7 sQ,.vk 2 Cr],cn:=[(2,[25])],ps:=[(40,[(5000,25)])]}),(127,{pre:=[.ba 25]})] 25 ⟨[gP,(1,sW)],[]⟩ B9 fun x=>Dd x.1 x.2.1
def Xl:FS:=mkG [] [(13,{cut:=[(.normal,⟨[cE,cK],[Hh,(1000,rk)]⟩),(.ret,adz)]}),(26,{loop:=some ⟨(cE::cK::eB),[Hh,(1000,rk)]⟩})] 227 ⟨(cE::B0),[(1000,rk)]⟩ [(false,adz)] fun x=>vX x.1 x.2.1
def agB:FS:=mkHh [Xl] [(13,{cut:=[(.normal,⟨[bR,ga],Ox⟩)]}),(26,{pre:=[.da 2 0 30 (.row [] 84 jB []),.da 2 1 20 (.row [] 191 kN [])],loop:=some ⟨N2,Ox⟩}),(1682,{ow:=[30],kf:=[(0,kG),(1,kG),(4,bh),(5,bh),(6,bh),(8,.u [30] false),(9,kG),(10,rl)],ps:=[(30,uN)]}),(3367,{cut:=[(.normal,⟨N2,Ox⟩)]}),(6734,{loop:=some ⟨(nt::bR::ga::BF),Ox⟩}),(107748,{ow:=[58],kf:=[(0,kG),(1,kG),(4,bh),(5,bh),(6,bh),ri,(10,bh),(11,bh),(13,bh),(14,bh),(16,.u [30] false),(17,kG),(18,rl)],ps:=[(58,uN)]})] 140 ⟨[(0,.agg pY),nt],[]⟩ [(false,⟨[(3000004,.agg [.own 30,.own 20])],[(20,jC),(30,rk)]⟩)] (fun o=>(o.1,o.2.1)) (fun r=>(r.1,r.2,())) (fun _=>rfl) (fun x=>Jk x.1)
def DW:FS:=mkG [] [(13,U1),(26,{loop:=some ⟨(gy::gz::(2,dT)::iz),[]⟩})] 70 ⟨(gy::gz::js),[]⟩ pT fun x=>qj x.1 x.2.1 x.2.2.1
def alD:FS:=mkG [DW,K3] [] 141 ⟨[gy,gz,(2,.st jB)],[]⟩ [(false,⟨[(6,.c iD)],[]⟩)] fun x=>LR x.1 x.2.1 x.2.2.1
def ahv:FS:=mkHh [Xl] [(13,{cut:=[(.normal,⟨[bR,ga],Ov⟩)]}),(26,{loop:=some ⟨N2,Ov⟩}),(1682,{ow:=[30],kf:=[(0,kG),(1,kG),(4,bh),(5,bh),(6,bh),(8,GX),(9,kG),(10,rl)],ps:=[(30,[(1000,1001)])]}),(3367,{cut:=[(.normal,⟨N2,Ov⟩)]}),(6734,{loop:=some ⟨(nt::bR::ga::BF),Ov⟩}),(107748,{ow:=[58],kf:=[(0,kG),(1,kG),(4,bh),(5,bh),(6,bh),ri,(10,bh),(11,bh),(13,bh),(14,bh),(16,GX),(17,kG),(18,rl)],ps:=[(58,[(1000,1001)])]})] 140 ⟨[(0,.agg [.own 1001,BE]),nt],[(1001,rk),xu]⟩ [(false,⟨[(3000004,.agg [.own 1001,BE])],[(1001,rk),xu]⟩)] (fun o=>(o.1,o.2.1)) (fun r=>(r.1,r.2,())) (fun _=>rfl) (fun x=>yK x.1 x.2.1 x.2.2.1)
def D9:FS:=mkG [agB,ahv,alD] [(6,{ow:=[11],ps:=[(11,[(20,11),(30,211)])]}),(29,{cut:=[(.normal,⟨[fI,rq],ad6⟩)]}),(31,{pre:=[.ba 211,.ba 11]}),(58,{loop:=some ⟨(gy::pQ::fI::rq::nn),ad6⟩}),(932,{ow:=[28],kf:=[(0,.q [7]),(3,.q [7]),(4,.q [7]),(6,.q [211]),(7,.q [211]),(9,.u [211,11] false),(10,.u [7] false)],ps:=[(28,[(1001,211),(1002,11)])]})] 67 Vd [(false,⟨[(3000006,.st (.pair sO rb))],[]⟩)] fun x=>tF x.1 x.2.1 x.2.2.1
def PU:FS:=mkG [] [(29,{cut:=[(.normal,⟨[GZ],[(27,dJ)]⟩)]}),(31,{pre:=[.ba 27]}),(58,{pre:=[.dz 3 27 (.row [] 9 .str [])],loop:=some ⟨(ru::GZ::fe),[(1,u5),(27,dJ)]⟩})] 68 ⟨[(0,.st (.pair sO rb))],[]⟩ [(false,⟨uO,[]⟩)] fun x=>yN x.1
def ahu:FS:=mkG [D9,PU] [(29,{cut:=[(.normal,⟨[bR,NR,(6,xt)],[(2,kO),(31,dI)]⟩)]}),(30,{pre:=[.ba 31]}),(58,{pre:=[.dz 5 31 (.row [] 3 eF [])],loop:=some ⟨((1,sW)::bR::NR::(6,xt)::iz),[(2,kO),(31,dI)]⟩}),(125,{cut:=[(.normal,⟨[(6,.c (.own 72))],[(72,dI)]⟩)]}),(127,{pre:=[.ba 72]}),(250,{pre:=[.dz 6 72 (.row [] 3 eF [])],loop:=some aez}),(8009,{cut:=[(.normal,aez)]}),(16018,{loop:=some ⟨(bR::(5,eV)::(6,.c (.own 72))::(8,eu)::xr),[(2,kO),(72,dI)]⟩})] 26 ⟨[sN,(1,sW)],[]⟩ B9 fun x=>JP x.1 x.2.1
def V9:FS:=mkG [Wc,Kp,DQ,zB,ahu] [] 5 ⟨[B4,(1,sW)],[]⟩ di fun x=>I' x.1 x.2.1
section
open Go.WideShapes
theorem RU {t:Ty} {R:World->List Value->den t->Prop} (hR: ∀w cs x,R w cs x->TR (fun _ _=>False) w t (fun i v=>cs[i]? =some v) x) {w:World} {v:Value} {l:List (den t)} (h:RowOf (wid t) R w v l):CR ⟨fun _=>undef,fun b _=>b<w.heap.size⟩ eU w v (.v (.sl t) l):=by
 rcases h with⟨a,cap,rfl,rfl,_⟩ |⟨b,off,cap,rfl,h1,h2,M,N⟩
 · exact⟨rfl,a,cap,rfl,.inl rfl⟩
 · refine⟨rfl,_,cap,rfl,.inr ⟨h1,h2,b,off,rfl,fun i x J=>?_⟩⟩;have O:=(av7.1 J).1;obtain⟨cs,hc,F⟩:=N i O;have e:l[i]=x:=(av7.1 J).2;rw[e] at F;refine TR.mono (fun _ _ _ q=>q.elim) t (fun j v D=>⟨M,?_⟩) (hR w cs x F);have:=hc.2 j (by have:=(av7.1 D).1;rw[hc.1] at this;exact this)
   rw[<-D,<-this,Nat.add_assoc]
def BoolsC (w:World) (cs:List Value) (x:Bool):Prop:=cs=[.bool x]
theorem ams {w:World} {v:Value} {l:List Bool} (h:RowOf 1 BoolsC w v l):CR ⟨fun _=>undef,fun b _=>b<w.heap.size⟩ eU w v (.v (.sl .bool) l):=RU (t:=.bool) (fun w cs x h=>by rw[show cs=_ from h];rfl) h
section
variable {H:Type} {enc:TypeId×Value->H} {W:World} {base:Nat} {sp:Nat->Bool} {held:Bool}
theorem boolsC_open' (m:Nat) (cs:List Value) (y:DataW H×List MemPlace) (h:DataW.trod enc Tryz.prog W base sp held m 4 cs=some y): ∃x,BoolsC W cs x:=by obtain⟨s,e,_⟩:=DataW.trod_bool Tryz.underlying4 h;exact⟨s,e⟩
theorem case_open {cs:Array Value} {d:DataW H} {ps:List MemPlace} (h:DataW.Trod enc Tryz.prog W base sp held 26 (.agg cs) d ps):
  ∃(p t m:ByteArray) (J:Value) (U:List (List UInt8)),cs= #[.string p,.string t,J,.string m]/\RowOf 1 StrC W J U:=by
 obtain⟨m,hm⟩:=h;obtain⟨_,_,_,O,F,_,hf⟩:=DataW.trod_struct Tryz.underlying26 hm;obtain⟨l⟩:=cs;have M:l.length=4:=(show l.length=_ from F).trans ach
 obtain⟨a0,D,a2,a3,rfl⟩: ∃a0 D a2 a3,l=[a0,D,a2,a3]:=by
  clear hm F O hf
  match l,M with
  |[a0,D,a2,a3],_=>exact⟨a0,D,a2,a3,rfl⟩
 obtain⟨p,t,m,l,rfl,rfl,rfl,N⟩:=Yj hm;exact⟨p,t,m,a2,l,rfl,N⟩
end
end
section
open Go.WideShapes
theorem encodeChoices_walk (p t m:ByteArray) (M:List (List UInt8)) (D:Value) (J:Value) (l:List (Bool)) (w:World) (hr:RowOf 1 StrC w D M) (Y:RowOf 1 BoolsC w J l) (ht:TabOk w.heap[tabB]?):
  Calls Tryz.prog 5 #[.agg #[.string p,.string t,D,.string m],J] w fun e w'=>e=.returned (.bool true)/\Below w.heap.size w w':=by
 have U:V9.F _ (((p.data.toList,t.data.toList,M),m.data.toList),l,()) some=some (true,()):=by show(I' _ _).bind _=_;rw[aho _ _];rfl
 obtain⟨o,h1,h2⟩:=V9.ok _ _ _ _ U;have N:=(Option.some.inj h1);subst N;have O:fo Tryz.prog 5 [.agg [.v .str p.data.toList,.v .str t.data.toList,.v (.sl .str) M,.v .str m.data.toList],.c (.v (.sl .bool) l)] [] (.ret (.c (.v .bool true)) []):=h2;refine(O.run (A:=fun b _=>b<w.heap.size) (w:=w) (vals:=[.agg #[.string p,.string t,D,.string m],J]) (fun _ _ q=>q) ht (.cons ⟨[.string p,.string t,D,.string m],rfl,.cons (jH p) (.cons (jH t) (.cons (EW hr) (.cons (jH m) .nil)))⟩ (.cons (ams Y) .nil))).mono ?_;rintro e w' ⟨x,c',rfl,Z,hx⟩;exact⟨by rw[sc hx (v:=.bool true) rfl],Z.below⟩
end
end
end Go.Proofs.YtejhifnjgoclpaaGreatDoor.Fx
