/- Parts of the proofs, put together by a program. -/
import Derived.Test.YtejhifnjgoclpaaGreatDoorK3
set_option linter.unusedVariables false
set_option linter.unusedSimpArgs false
open Option renaming bind_some->at0
open List renaming getElem_mem->at2,length_map->au1,getElem?_eq_getElem->au4,length_append->au5,length_cons->av1,mem_append->av3,replicate->av5,drop_eq_getElem_cons->av6,mem_singleton->aw0,map_append->aw1,mem_cons_self->aw4,append_nil->aw5,length_take->aw7,append_assoc->aw9,mem_map->ax1,take_append_drop->ax4,mem_cons_of_mem->ax5,take_length->ax6,drop_zero->ax7,getElem_map->ax8,length_nil->ay2,length_drop->ay3,all_cons->ay4,length_pos_iff->ay5,length_singleton->ay7,drop_length->ay8,length_eq_zero_iff->az2,drop_eq_nil_of_le->az3,map_map->aA1,nodup_nil->aA3,length_set->aA9,foldl_cons->aB3,any_cons->aD7,mem_of_find?_eq_some->aE4,getElem_cons_zero->aG1,any_eq_true->aH3
open Nat renaming le_refl->at9,zero_le->au2,zero_add->ax2,mul_le_mul_right->az8,add_mul->aA0,lt_of_lt_of_le->aA5,pow_le_pow_right->aA8,le_of_lt->aB7,pow_succ->aC0,add_sub_cancel->aC1
open Bool renaming and_eq_true->au0,not_true->av2,false_eq_true->av7,not_false->aw3,true_and->az4,and_true->aD4,and_false->aD5,and_assoc->aF9,false_ne_true->aG0
open Sum renaming inl->au6,inr->au8
open Int renaming toNat_natCast->av0
open Go.IntKind renaming wrap->av4,bits->av9
namespace Go.Proofs.YtejhifnjgoclpaaGreatDoor.Fx
open Go.RowKit
set_option maxRecDepth 1000000
noncomputable section
def zz(s:aa):NJ:=bif decide (20000<(s.length:Int))then some ([],(2,0,0))else(ED s 800).bind λD=>some (D.1,D.2)
def iZ(o:bL):Option (Bool×bL):=some (decide (o.2<(o.1.2.1.length:Int)),o)
def dS(o:bL):Co:=(iZ o).bind λD=>bif !D.1 then some (.inr ((.iface 295 (.agg #[(.int .i64 1),(.int .i64 D.2.1.1),(.int .i64 0)])),()))else J (ab .i64 (D.2.2+1))<|J (ab .i64 ((D.2.2+1)-1))<|(ag D.2.1.2.1 ((D.2.2+1)-1)).bind λF=>some (.inl (F,(D.2.1,(D.2.2+1)),()))
def aZ(e:Int)(o:bL):Option sR:=bif decide (0<o.2)then bif decide (o.2<=(o.1.2.2.length:Int))then J (ab .i64 (o.2-1))<|(ag o.1.2.2 (o.2-1)).bind λD=>some ((.iface 295 (.agg #[(.int .i64 e),(.int .i64 o.1.1),(.int .i64 D)])),())else some ((.iface 295 (.agg #[(.int .i64 e),(.int .i64 o.1.1),(.int .i64 0)])),())else some ((.iface 295 (.agg #[(.int .i64 e),(.int .i64 o.1.1),(.int .i64 0)])),())
def C3(D:Int)(o:bL)(l:ft):Option (bL×ft×Unit⊕Value×ft×Unit):=bif decide ((l.length:Int)=D)then(aZ 2 o).bind λ(F,_)=>some (.inr (F,l,()))else some (.inl (o,l,()))
def Kz(c:Int):bX:=bif decide (97<=c)then bif decide (c<=122)then some true else bif decide (48<=c)then bif decide (c<=57)then some true else some (decide (c=45))else some (decide (c=45))else bif decide (48<=c)then bif decide (c<=57)then some true else some (decide (c=45))else some (decide (c=45))
def y9:Lp (aa×kW) oD:=λ(F,L,D,_)=>bif decide (D<L)then(ag F D).bind λM=>(Kz (M.toNat:Int)).bind λN=>bif !N then some (.inr (.inr (())))else J (ab .i64 (D+1))<|some (.inl (F,L,(D+1),()))else some (.inr (.inl (())))
def EA(s:aa):bX:=bif decide (20<(s.length:Int))then some false else bif !decide (s=[])then(ag s 0).bind λb=>bif decide ((b.toNat:Int)<97)then some false else(ag s 0).bind λD=>bif decide (122<(D.toNat:Int))then some false else(ae y9 (s,(s.length:Int),0,())).bind λo=>match o with|.inl (_)=>some true|.inr (_)=>some false else(ae y9 (s,(s.length:Int),0,())).bind λF=>match F with|.inl (_)=>some true|.inr (_)=>some false
def o0(s:aa):bX:=bif !decide (s=[])then(EA s).bind λD=>bif D then J (ab .i64 ((s.length:Int)-1))<|(ag s ((s.length:Int)-1)).bind λb=>some (!decide ((b.toNat:Int)=45))else some false else some false
def DN(s:aa):q9:=(o0 s).bind λD=>some (s,D)
def CI(o:bL):Co:=(dS o).bind λJ=>match J with|.inl (word,F,_)=>(DN word).bind λD=>bif !D.2 then(aZ 1 F).bind λ(L,_)=>some (.inr (L,()))else some (.inl (D.1,F,()))|.inr (M,_)=>some (.inr (M,()))
def Jp(x:aa×Nat×Bool):sS:=some x.1
def IM(x:aa×Nat×Bool)(o:aa):Gw:=(Jp x).bind λD=>some (decide (D=o),o)
def Cw:Lp (ft×ti) Gs:=λ(M,N,D,L,_)=>bif decide (D<N)then(ag M D).bind λO=>(IM O L).bind λF=>bif F.1 then some (.inr (.inr (D,F.2,())))else J (ab .i64 (D+1))<|some (.inl (M,N,(D+1),F.2,()))else some (.inr (.inl (L,())))
def Pk(s:ft)(o:aa):Gy:=(ae Cw (s,(s.length:Int),0,o,())).bind λD=>match D with|.inl (F,_)=>some ((-1),F)|.inr (L,J,_)=>some (L,J)
def yn(l:ft)(s:aa):bU:=(Pk l s).bind λD=>some D.1
def Ix(s:aa)(o:bL)(l:ft):Option (aa×bL×ft×Unit⊕Value×ft×Unit):=(yn l s).bind λD=>bif decide (0<=D)then(aZ 3 o).bind λ(F,_)=>some (.inr (F,l,()))else some (.inl (s,o,l,()))
def PO(o:bL):Option (Nat×uM⊕sR):=(dS o).bind λJ=>match J with|.inl (word,F,_)=>(zf word).bind λD=>bif !D.2 then(aZ 1 F).bind λ(L,_)=>some (.inr (L,()))else some (.inl (D.1,F,()))|.inr (M,_)=>some (.inr (M,()))
def Kw(s:aa):Option (Bool×Bool):=bif decide (s=jV)then some (decide (s=jV),true)else some (decide (s=jV),decide (s=wC))
def PU(o:bL):Option (Bool×uM⊕sR):=(dS o).bind λJ=>match J with|.inl (word,F,_)=>(Kw word).bind λD=>bif !D.2 then(aZ 1 F).bind λ(L,_)=>some (.inr (L,()))else some (.inl (D.1,F,()))|.inr (M,_)=>some (.inr (M,()))
def IX(l:ft)(D:fN)(F:gg)(L:gh)(M:iH)(o:bL):Ib:=(C3 8 o l).bind λZ=>match Z with|.inl (room,O,_)=>(J (l.length=O.length)<|(CI room).bind λah=>match ah with|.inl (take,bb,_)=>((Ix take bb O).bind λan=>match an with|.inl (unique,b0,N,_)=>(J (O.length=N.length)<|(PO b0).bind λar=>match ar with|.inl (U,bp,_)=>((PU bp).bind λaz=>match az with|.inl (Y,bx,_)=>J (N.length+([(unique,U,Y)]:ft).length<=1000000000)<|some (.inl ((N++([(unique,U,Y)]:ft)),D,F,L,M,bx,()))|.inr (pv,_)=>some (.inr (pv,N,D,F,L,M,())))|.inr (aE,_)=>some (.inr (aE,N,D,F,L,M,())))|.inr (a1,b1,_)=>some (.inr (a1,b1,D,F,L,M,())))|.inr (a6,_)=>some (.inr (a6,O,D,F,L,M,())))|.inr (a7,a8,_)=>some (.inr (a7,a8,D,F,L,M,()))
def C9(D:Int)(o:bL)(l:fN):Option (bL×fN×Unit⊕Value×fN×Unit):=bif decide ((l.length:Int)=D)then(aZ 2 o).bind λ(F,_)=>some (.inr (F,l,()))else some (.inl (o,l,()))
def II(s suffix:aa):bX:=bif decide ((suffix.length:Int)<=(s.length:Int))then J (ab .i64 ((s.length:Int)-(suffix.length:Int)))<|J (0<=((s.length:Int)-(suffix.length:Int))/\((s.length:Int)-(suffix.length:Int))<=(s.length:Int)/\(s.length:Int)<=s.length)<|some (decide (((s.take (s.length:Int).toNat).drop ((s.length:Int)-(suffix.length:Int)).toNat)=suffix))else some false
def PS(s suffix:aa):q9:=(II s suffix).bind λD=>bif !D then some (s,false)else J (ab .i64 ((s.length:Int)-(suffix.length:Int)))<|J (0<=(0:Int)/\(0:Int)<=((s.length:Int)-(suffix.length:Int))/\((s.length:Int)-(suffix.length:Int))<=s.length)<|some (((s.take ((s.length:Int)-(suffix.length:Int)).toNat).drop (0:Int).toNat),true)
def yJ(s suffix:aa):q9:=(PS s suffix).bind λD=>some (D.1,D.2)
def CM(s D:aa):bX:=bif decide ((D.length:Int)<=(s.length:Int))then J (0<=(0:Int)/\(0:Int)<=(D.length:Int)/\(D.length:Int)<=s.length)<|some (decide (((s.take (D.length:Int).toNat).drop (0:Int).toNat)=D))else some false
def PT(s D:aa):q9:=(CM s D).bind λF=>bif !F then some (s,false)else J (0<=(D.length:Int)/\(D.length:Int)<=(s.length:Int)/\(s.length:Int)<=s.length)<|some (((s.take (s.length:Int).toNat).drop (D.length:Int).toNat),true)
def C8(s F:aa):q9:=(PT s F).bind λD=>some (D.1,D.2)
def EB(s:aa):Option q8:=(C8 s AL).bind λF=>bif !F.2 then some ([],s)else(lp F.1 T5).bind λD=>bif !D.2.2 then some ([],s)else some (D.1,D.2.1)
def rK(s:aa):bX:=(EB s).bind λsplit=>(o0 split.2).bind λD=>bif D then bif decide (split.1=[])then bif decide (split.2=s)then some true else(o0 split.1).bind λF=>some F else(o0 split.1).bind λJ=>some J else some false
def zQ(s:aa):bX:=(yJ s kN).bind λD=>bif !D.2 then(rK s).bind λF=>some F else(EB D.1).bind λsplit=>(EA split.2).bind λJ=>bif J then bif decide (split.1=[])then bif decide (split.2=D.1)then some true else(o0 split.1).bind λL=>some L else(o0 split.1).bind λM=>some M else some false
def D8(s:aa):q9:=(zQ s).bind λD=>some (s,D)
def PQ(o:bL):Co:=(dS o).bind λJ=>match J with|.inl (word,F,_)=>(D8 word).bind λD=>bif !D.2 then(aZ 1 F).bind λ(L,_)=>some (.inr (L,()))else some (.inl (D.1,F,()))|.inr (M,_)=>some (.inr (M,()))
def Jz(x:NH):sS:=some x.1
def IN(x:NH)(o:aa):Gw:=(Jz x).bind λD=>some (decide (D=o),o)
def Cz:Lp (fN×ti) Gs:=λ(M,N,D,L,_)=>bif decide (D<N)then(ag M D).bind λO=>(IN O L).bind λF=>bif F.1 then some (.inr (.inr (D,F.2,())))else J (ab .i64 (D+1))<|some (.inl (M,N,(D+1),F.2,()))else some (.inr (.inl (L,())))
def Pm(s:fN)(o:aa):Gy:=(ae Cz (s,(s.length:Int),0,o,())).bind λD=>match D with|.inl (F,_)=>some ((-1),F)|.inr (L,J,_)=>some (L,J)
def IB(l:fN)(s:aa):bU:=(Pm l s).bind λD=>some D.1
def Iz(s:aa)(o:bL)(l:fN):Option (aa×bL×fN×Unit⊕Value×fN×Unit):=(IB l s).bind λD=>bif decide (0<=D)then(aZ 3 o).bind λ(F,_)=>some (.inr (F,l,()))else some (.inl (s,o,l,()))
def oS:Lp (ak×aa×kW) pO:=λ(F,L,M,D,_)=>bif decide (D<M)then(ag F D).bind λN=>bif decide (L=N)then some (.inr (.inr (D,())))else J (ab .i64 (D+1))<|some (.inl (F,L,M,(D+1),()))else some (.inr (.inl (())))
def mL(s:ak)(v:aa):bU:=(ae oS (s,v,(s.length:Int),0,())).bind λo=>match o with|.inl (_)=>some (-1)|.inr (D,_)=>some D
def Kx(s:aa):sQ:=(mL ([iK,pj,im]:ak) s).bind λD=>some ((if D>0 then D else 0),decide (0<=D))
def PZ(o:bL):UN:=(dS o).bind λJ=>match J with|.inl (word,F,_)=>(Kx word).bind λD=>bif !D.2 then(aZ 1 F).bind λ(L,_)=>some (.inr (L,()))else some (.inl (D.1,F,()))|.inr (M,_)=>some (.inr (M,()))
def tt(p:ib)(s:aa):bU:=(yn p.1 s).bind λD=>some D
def rE(s:ak)(v:aa):bX:=(mL s v).bind λD=>some (decide (0<=D))
def qc:Lp (aa×Int×ak×NP) (aa×Int×ak×NP⊕Value×O7):=λ(ah,an,Y,F,L,M,N,O,az,aE,a1,a6,_)=>(iZ ((az,aE,a1),a6)).bind λD=>bif D.1 then(CI D.2).bind λa7=>match a7 with|.inl (Z,U,_)=>(tt (F,L,M,N,O) Z).bind λbp=>bif decide (bp<0)then(aZ 4 U).bind λ(pv,_)=>some (.inr (.inr (pv,F,L,M,N,O,())))else(rE Y Z).bind λar=>bif ar then(aZ 3 U).bind λ(a8,_)=>some (.inr (.inr (a8,F,L,M,N,O,())))else J (Y.length+([Z]:ak).length<=1000000000)<|some (.inl (ah,an,(Y++([Z]:ak)),F,L,M,N,O,U.1.1,U.1.2.1,U.1.2.2,U.2,()))|.inr (bb,_)=>some (.inr (.inr (bb,F,L,M,N,O,())))else some (.inr (.inl (ah,an,Y,F,L,M,N,O,D.2.1.1,D.2.1.2.1,D.2.1.2.2,D.2.2,())))
def Ji(l:ft)(Z:fN)(D:gg)(F:gh)(L:iH)(o:bL):Ib:=(C9 16 o Z).bind λar=>match ar with|.inl (room,M,_)=>(J (Z.length=M.length)<|(PQ room).bind λaz=>match az with|.inl (take,cj,_)=>((Iz take cj M).bind λa1=>match a1 with|.inl (unique,cp,O,_)=>((PZ cp).bind λb3=>match b3 with|.inl (ck,N,_)=>((J (M.length=O.length)<|ae qc (unique,ck,[],l,O,D,F,L,N.1.1,N.1.2.1,N.1.2.2,N.2,())).bind λaE=>match aE with|.inl (U,Y,an,a6,ah,a7,a8,bb,bp,bx,b0,b1,_)=>J (ah.length+([(U,Y,an)]:fN).length<=1000000000)<|some (.inl (a6,(ah++([(U,Y,an)]:fN)),a7,a8,bb,((bp,bx,b0),b1),()))|.inr (b8,b2,b4,b5,b6,b7,_)=>some (.inr (b8,b2,b4,b5,b6,b7,())))|.inr (ca,_)=>some (.inr (ca,l,O,D,F,L,())))|.inr (cc,cw,_)=>some (.inr (cc,l,cw,D,F,L,())))|.inr (cd,_)=>some (.inr (cd,l,M,D,F,L,())))|.inr (cg,ch,_)=>some (.inr (cg,l,ch,D,F,L,()))
def Dl(D:Int)(o:bL)(l:gg):Option (bL×gg×Unit⊕Value×gg×Unit):=bif decide ((l.length:Int)=D)then(aZ 2 o).bind λ(F,_)=>some (.inr (F,l,()))else some (.inl (o,l,()))
def D9(s:aa):q9:=(rK s).bind λD=>some (s,D)
def IG(o:bL):Co:=(dS o).bind λJ=>match J with|.inl (word,F,_)=>(D9 word).bind λD=>bif !D.2 then(aZ 1 F).bind λ(L,_)=>some (.inr (L,()))else some (.inl (D.1,F,()))|.inr (M,_)=>some (.inr (M,()))
def JR(x:aa×gL):sS:=some x.1
def IV(x:aa×gL)(o:aa):Gw:=(JR x).bind λD=>some (decide (D=o),o)
def CC:Lp (gg×ti) Gs:=λ(M,N,D,L,_)=>bif decide (D<N)then(ag M D).bind λO=>(IV O L).bind λF=>bif F.1 then some (.inr (.inr (D,F.2,())))else J (ab .i64 (D+1))<|some (.inl (M,N,(D+1),F.2,()))else some (.inr (.inl (L,())))
def Pz(s:gg)(o:aa):Gy:=(ae CC (s,(s.length:Int),0,o,())).bind λD=>match D with|.inl (F,_)=>some ((-1),F)|.inr (L,J,_)=>some (L,J)
def yu(l:gg)(s:aa):bU:=(Pz l s).bind λD=>some D.1
def IF(s:aa)(o:bL)(l:gg):Option (aa×bL×gg×Unit⊕Value×gg×Unit):=(yu l s).bind λD=>bif decide (0<=D)then(aZ 3 o).bind λ(F,_)=>some (.inr (F,l,()))else some (.inl (s,o,l,()))
def vN:Lp (aa×kt) Bi:=λ(L,F,N,D,_)=>bif decide (D<N)then(ag L D).bind λO=>bif decide ((O.toNat:Int)<48)then some (.inr (.inr (0,())))else(ag L D).bind λU=>bif decide (57<(U.toNat:Int))then some (.inr (.inr (0,())))else J (ab .i64 (10*F))<|(ag L D).bind λM=>J (ab .u8 ((M.toNat:Int)-48))<|J (ab .i64 ((10*F)+(av4 .i64 ((M.toNat:Int)-48))))<|J (ab .i64 (D+1))<|some (.inl (L,((10*F)+(av4 .i64 ((M.toNat:Int)-48))),N,(D+1),()))else some (.inr (.inl (F,())))
def JM(s:aa)(D:Int):sQ:=bif decide ((s.length:Int)<1)then some (0,false)else bif decide (D<(s.length:Int))then some (0,false)else bif decide (1<(s.length:Int))then(ag s 0).bind λb=>bif decide ((b.toNat:Int)=48)then some (0,false)else(ae vN (s,0,(s.length:Int),0,())).bind λo=>match o with|.inl (F,_)=>some (F,true)|.inr (M,_)=>some (M,false)else(ae vN (s,0,(s.length:Int),0,())).bind λL=>match L with|.inl (J,_)=>some (J,true)|.inr (N,_)=>some (N,false)
def tB:Lp (ak×Int×Int×uN) (uN⊕Int×ti):=λ(Y,Z,D,M,N,O,U,ah,an,ar,L,_)=>bif decide (D<Z)then(ag Y D).bind λaz=>(JM az 6).bind λF=>bif !F.2 then some (.inr (.inr (0,0,0,[],())))else if D=((2:Nat):Int)then J (ab .i64 (D+1))<|some (.inl (Y,Z,(D+1),M,N,O,U,ah,an,F.1,L,()))else if D=((1:Nat):Int)then J (ab .i64 (D+1))<|some (.inl (Y,Z,(D+1),M,N,O,U,ah,F.1,ar,L,()))else if D=((0:Nat):Int)then J (ab .i64 (D+1))<|some (.inl (Y,Z,(D+1),M,N,O,U,F.1,an,ar,L,()))else none else some (.inr (.inl (M,N,O,U,ah,an,ar,L,())))
def vT(s:aa):Option (gL×Bool):=let F:aa×aa×Bool->Option (gL×Bool):=λD=>(strings_Split D.1 gB).bind λsplit=>bif !decide ((split.length:Int)=3)then some (((0,0,0),[]),false)else(ae tB (split,(split.length:Int),0,0,0,0,[],0,0,0,D.2.1,())).bind λo=>match o with|.inl (an,ar,az,aE,N,O,L,M,_)=>some (((N,O,L),M),true)|.inr (U,Y,Z,ah,_)=>some (((U,Y,Z),ah),false);(lp s oj).bind λD=>bif D.2.2 then(DT D.2.1).bind λJ=>bif !J then some (((0,0,0),[]),false)else F D else F D
def yt(o:bL):Option (gL×uM⊕sR):=(dS o).bind λJ=>match J with|.inl (word,F,_)=>(vT word).bind λD=>bif !D.2 then(aZ 1 F).bind λ(L,_)=>some (.inr (L,()))else some (.inl (D.1,F,()))|.inr (M,_)=>some (.inr (M,()))
def Jq(l:ft)(D:fN)(O:gg)(F:gh)(L:iH)(o:bL):Ib:=(Dl 16 o O).bind λY=>match Y with|.inl (room,M,_)=>(J (O.length=M.length)<|(IG room).bind λZ=>match Z with|.inl (take,a6,_)=>((IF take a6 M).bind λah=>match ah with|.inl (unique,a8,N,_)=>(J (M.length=N.length)<|(yt a8).bind λan=>match an with|.inl (U,a7,_)=>J (N.length+([(unique,U)]:gg).length<=1000000000)<|some (.inl (l,D,(N++([(unique,U)]:gg)),F,L,a7,()))|.inr (pv,_)=>some (.inr (pv,l,D,N,F,L,())))|.inr (ar,bb,_)=>some (.inr (ar,l,D,bb,F,L,())))|.inr (az,_)=>some (.inr (az,l,D,M,F,L,())))|.inr (aE,a1,_)=>some (.inr (aE,l,D,a1,F,L,()))
def Dd(D:Int)(o:bL)(l:gh):Option (bL×gh×Unit⊕Value×gh×Unit):=bif decide ((l.length:Int)=D)then(aZ 2 o).bind λ(F,_)=>some (.inr (F,l,()))else some (.inl (o,l,()))
def JI(x:aa×aM):sS:=some x.1
def IS(x:aa×aM)(o:aa):Gw:=(JI x).bind λD=>some (decide (D=o),o)
def CA:Lp (gh×ti) Gs:=λ(M,N,D,L,_)=>bif decide (D<N)then(ag M D).bind λO=>(IS O L).bind λF=>bif F.1 then some (.inr (.inr (D,F.2,())))else J (ab .i64 (D+1))<|some (.inl (M,N,(D+1),F.2,()))else some (.inr (.inl (L,())))
def Pt(s:gh)(o:aa):Gy:=(ae CA (s,(s.length:Int),0,o,())).bind λD=>match D with|.inl (F,_)=>some ((-1),F)|.inr (L,J,_)=>some (L,J)
def yr(l:gh)(s:aa):bU:=(Pt l s).bind λD=>some D.1
def ID(s:aa)(o:bL)(l:gh):Option (aa×bL×gh×Unit⊕Value×gh×Unit):=(yr l s).bind λD=>bif decide (0<=D)then(aZ 3 o).bind λ(F,_)=>some (.inr (F,l,()))else some (.inl (s,o,l,()))
def KR(c:Int):bU:=bif decide (48<=c)then bif decide (c<=57)then J (ab .u8 (c-48))<|some (c-48)else bif decide (97<=c)then bif decide (c<=102)then J (ab .u8 (c-97))<|J (ab .u8 ((c-97)+10))<|some ((c-97)+10)else some 16 else some 16 else bif decide (97<=c)then bif decide (c<=102)then J (ab .u8 (c-97))<|J (ab .u8 ((c-97)+10))<|some ((c-97)+10)else some 16 else some 16
def C5:Lp (aa×kt) Bi:=λ(L,F,N,D,_)=>bif decide (D<N)then(ag L D).bind λb=>(KR (b.toNat:Int)).bind λM=>bif decide (15<M)then some (.inr (.inr (0,())))else J (0<=(4:Int))<|J (ab .i64 (D+1))<|some (.inl (L,(bits .or .u64 (av4 .u64 (F*2^(min (4:Int).toNat (av9 .u64)))) (av4 .u64 M)),N,(D+1),()))else some (.inr (.inl (F,())))
def De(s:aa):sQ:=bif !decide ((s.length:Int)=16)then some (0,false)else(ae C5 (s,0,(s.length:Int),0,())).bind λo=>match o with|.inl (D,_)=>some (D,true)|.inr (F,_)=>some (F,false)
def yq(o:bL):UN:=(dS o).bind λJ=>match J with|.inl (word,F,_)=>(De word).bind λD=>bif !D.2 then(aZ 1 F).bind λ(L,_)=>some (.inr (L,()))else some (.inl (D.1,F,()))|.inr (M,_)=>some (.inr (M,()))
def CQ:Lp (aM×kt) pO:=λ(F,L,M,D,_)=>bif decide (D<M)then(ag F D).bind λN=>bif decide (L=N)then some (.inr (.inr (D,())))else J (ab .i64 (D+1))<|some (.inl (F,L,M,(D+1),()))else some (.inr (.inl (())))
def P4(s:aM)(v:Int):bU:=(ae CQ (s,v,(s.length:Int),0,())).bind λo=>match o with|.inl (_)=>some (-1)|.inr (D,_)=>some D
def yy(s:aM)(v:Int):bX:=(P4 s v).bind λD=>some (decide (0<=D))
def C4(D:Int)(o:bL)(l:aM):Option (bL×lV⊕Value×lV):=bif decide ((l.length:Int)=D)then(aZ 2 o).bind λ(F,_)=>some (.inr (F,l,()))else some (.inl (o,l,()))
def nO:Lp (aa×aM×NP) (aa×aM×NP⊕Value×O7):=λ(an,U,F,L,M,N,O,aE,a1,a6,a7,_)=>(iZ ((aE,a1,a6),a7)).bind λD=>bif D.1 then(yq D.2).bind λa8=>match a8 with|.inl (ah,ar,_)=>((yy U ah).bind λaz=>bif az then(aZ 3 ar).bind λ(pv,_)=>some (.inr (.inr (pv,F,L,M,N,O,())))else(C4 4 ar U).bind λbb=>match bb with|.inl (Y,Z,_)=>J (U.length=Z.length)<|J (Z.length+([ah]:aM).length<=1000000000)<|some (.inl (an,(Z++([ah]:aM)),F,L,M,N,O,Y.1.1,Y.1.2.1,Y.1.2.2,Y.2,()))|.inr (bp,b0,_)=>some (.inr (.inr (bp,F,L,M,N,O,()))))|.inr (bx,_)=>some (.inr (.inr (bx,F,L,M,N,O,())))else some (.inr (.inl (an,U,F,L,M,N,O,D.2.1.1,D.2.1.2.1,D.2.1.2.2,D.2.2,())))
def Jj(l:ft)(D:fN)(F:gg)(Y:gh)(L:iH)(o:bL):Ib:=(Dd 16 o Y).bind λan=>match an with|.inl (room,M,_)=>(J (Y.length=M.length)<|(IG room).bind λar=>match ar with|.inl (take,ch,_)=>((ID take ch M).bind λaz=>match az with|.inl (unique,ck,O,_)=>((yq ck).bind λb1=>match b1 with|.inl (cj,N,_)=>((J (M.length=O.length)<|ae nO (unique,([cj]:aM),l,D,F,O,L,N.1.1,N.1.2.1,N.1.2.2,N.2,())).bind λaE=>match aE with|.inl (U,ah,a1,a6,a7,Z,a8,bb,bp,bx,b0,_)=>J (Z.length+([(U,ah)]:gh).length<=1000000000)<|some (.inl (a1,a6,a7,(Z++([(U,ah)]:gh)),a8,((bb,bp,bx),b0),()))|.inr (b7,b2,b3,b4,b5,b6,_)=>some (.inr (b7,b2,b3,b4,b5,b6,())))|.inr (b8,_)=>some (.inr (b8,l,D,F,O,L,())))|.inr (ca,cp,_)=>some (.inr (ca,l,D,F,cp,L,())))|.inr (cc,_)=>some (.inr (cc,l,D,F,M,L,())))|.inr (cd,cg,_)=>some (.inr (cd,l,D,F,cg,L,()))
def C2(D:Int)(o:bL)(l:iH):Option (bL×Gu⊕Value×Gu):=bif decide ((l.length:Int)=D)then(aZ 2 o).bind λ(F,_)=>some (.inr (F,l,()))else some (.inl (o,l,()))
def Jo(x:Bn):sS:=some x.1
def IL(x:Bn)(o:aa):Gw:=(Jo x).bind λD=>some (decide (D=o),o)
def Cv:Lp (iH×ti) Gs:=λ(M,N,D,L,_)=>bif decide (D<N)then(ag M D).bind λO=>(IL O L).bind λF=>bif F.1 then some (.inr (.inr (D,F.2,())))else J (ab .i64 (D+1))<|some (.inl (M,N,(D+1),F.2,()))else some (.inr (.inl (L,())))
def Pj(s:iH)(o:aa):Gy:=(ae Cv (s,(s.length:Int),0,o,())).bind λD=>match D with|.inl (F,_)=>some ((-1),F)|.inr (L,J,_)=>some (L,J)
def ym(l:iH)(s:aa):bU:=(Pj l s).bind λD=>some D.1
def Iw(s:aa)(o:bL)(l:iH):Option (aa×bL×Gu⊕Value×Gu):=(ym l s).bind λD=>bif decide (0<=D)then(aZ 3 o).bind λ(F,_)=>some (.inr (F,l,()))else some (.inl (s,o,l,()))
def za:Lp (aa×kt) (mD⊕gw):=λ(F,N,O,D,_)=>let M:Option (aa×kt⊕mD⊕gw):=(ag F D).bind λL=>J (ab .u8 ((L.toNat:Int)-97))<|J (0<=((L.toNat:Int)-97))<|J (ab .i64 (D+1))<|some (.inl (F,(bits .or .u32 N (av4 .u32 (1*2^(min ((L.toNat:Int)-97).toNat (av9 .u32))))),O,(D+1),()));bif decide (D<O)then(ag F D).bind λb=>bif decide ((b.toNat:Int)<97)then some (.inr (.inr (0,())))else(ag F D).bind λU=>bif decide (122<(U.toNat:Int))then some (.inr (.inr (0,())))else bif decide (0<D)then(ag F D).bind λY=>J (ab .i64 (D-1))<|(ag F (D-1)).bind λZ=>bif decide ((Y.toNat:Int)<=(Z.toNat:Int))then some (.inr (.inr (0,())))else M else M else some (.inr (.inl (F,N,())))
def EC(s:aa):sQ:=bif decide (s=oj)then some (0,true)else(ae za (s,0,(s.length:Int),0,())).bind λo=>match o with|.inl (F,D,_)=>some (D,!decide (F=[]))|.inr (J,_)=>some (J,false)
def IK(o:bL):UN:=(dS o).bind λJ=>match J with|.inl (word,F,_)=>(EC word).bind λD=>bif !D.2 then(aZ 1 F).bind λ(L,_)=>some (.inr (L,()))else some (.inl (D.1,F,()))|.inr (M,_)=>some (.inr (M,()))
def IW(l:ft)(D:fN)(F:gg)(L:gh)(O:iH)(o:bL):Ib:=(C2 8 o O).bind λY=>match Y with|.inl (room,M,_)=>(J (O.length=M.length)<|(CI room).bind λZ=>match Z with|.inl (take,a6,_)=>((Iw take a6 M).bind λah=>match ah with|.inl (unique,a8,N,_)=>(J (M.length=N.length)<|(IK a8).bind λan=>match an with|.inl (U,a7,_)=>J (N.length+([(unique,U)]:iH).length<=1000000000)<|some (.inl (l,D,F,L,(N++([(unique,U)]:iH)),a7,()))|.inr (pv,_)=>some (.inr (pv,l,D,F,L,N,())))|.inr (ar,bb,_)=>some (.inr (ar,l,D,F,L,bb,())))|.inr (az,_)=>some (.inr (az,l,D,F,L,M,())))|.inr (aE,a1,_)=>some (.inr (aE,l,D,F,L,a1,()))
def Jy(o:bL)(D:Bool)(l:ft)(J:fN)(L:gg)(M:gh)(N:iH):Option (bL×sM⊕Value×sM):=let U:bL->aa->Option (bL×sM⊕Value×sM):=λF O=>bif !D then(aZ 1 F).bind λ(pv,_)=>some (.inr (pv,D,l,J,L,M,N,()))else bif decide (O=qu)then(IX l J L M N F).bind λa1=>match a1 with|.inl (source,cw,cx,c3,c4,c5,_)=>some (.inl (c5,D,source,cw,cx,c3,c4,()))|.inr (b4,c6)=>some (.inr (b4,D,c6))else bif decide (O=qx)then(Ji l J L M N F).bind λa6=>match a6 with|.inl (read,cd,cg,ch,cj,ck,_)=>some (.inl (ck,D,read,cd,cg,ch,cj,()))|.inr (b6,cp)=>some (.inr (b6,D,cp))else bif decide (O=w8)then(Jq l J L M N F).bind λa7=>match a7 with|.inl (ga,bp,bx,b0,b1,b2,_)=>some (.inl (b2,D,ga,bp,bx,b0,b1,()))|.inr (b7,b3)=>some (.inr (b7,D,b3))else bif decide (O=qD)then(Jj l J L M N F).bind λa8=>match a8 with|.inl (hash,Y,Z,ah,an,ar,_)=>some (.inl (ar,D,hash,Y,Z,ah,an,()))|.inr (b8,az)=>some (.inr (b8,D,az))else bif decide (O=wB)then(IW l J L M N F).bind λbb=>match bb with|.inl (c8,dd,dk,ds,ea,eb,_)=>some (.inl (eb,D,c8,dd,dk,ds,ea,()))|.inr (ca,ec)=>some (.inr (ca,D,ec))else(aZ 1 F).bind λ(cc,_)=>some (.inr (cc,D,l,J,L,M,N,()));(dS o).bind λaE=>match aE with|.inl (O,F,_)=>bif !D then bif decide (O=R8)then some (.inl (F,true,l,J,L,M,N,()))else U F O else U F O|.inr (b5,_)=>some (.inr (b5,D,l,J,L,M,N,()))
def kx:Lp (gr×Int×Int×sM) (sM⊕Value×sM):=λ(ah,an,F,L,M,N,O,U,Y,_)=>bif decide (F<an)then(ag ah F).bind λaE=>(Jy (aE,0) L M N O U Y).bind λar=>match ar with|.inl (parse,Z)=>(iZ parse).bind λD=>bif D.1 then J (ab .i64 (D.2.2+1))<|(aZ 1 (D.2.1,(D.2.2+1))).bind λ(pv,_)=>some (.inr (.inr (pv,Z)))else J (ab .i64 (F+1))<|some (.inl (ah,an,(F+1),Z))|.inr az=>some (.inr (.inr az))else some (.inr (.inl (L,M,N,O,U,Y,())))
def PX(l:gr)(o:Bool)(D:ft)(F:fN)(J:gg)(L:gh)(M:iH):Option (jQ×sM⊕jQ×sM):=(ae kx (l,(l.length:Int),0,o,D,F,J,L,M,())).bind λN=>match N with|.inl O=>some (.inl ((0,0,0),O))|.inr (Y,U)=>(pe Y).bind λq=>some (.inr (q,U))
def vZ(text:aa):Option (ib×jQ):=(zz text).bind λF=>bif !((decide (F.2.1=0)&&(decide (F.2.2.1=0)&&decide (F.2.2.2=0))))then some (([],[],[],[],[]),F.2)else(PX F.1 false [] [] [] [] []).bind λo=>match o with|.inl (each,U,J,L,M,N,O,_)=>bif (decide (each.1=0)&&(decide (each.2.1=0)&&decide (each.2.2=0)))then bif !U then bif !((decide (1=0)&&(decide (0=0)&&decide (0=0))))then some (([],[],[],[],[]),(1,0,0))else some ((J,L,M,N,O),(0,0,0))else bif !((decide (each.1=0)&&(decide (each.2.1=0)&&decide (each.2.2=0))))then some (([],[],[],[],[]),each)else some ((J,L,M,N,O),(0,0,0))else bif !((decide (each.1=0)&&(decide (each.2.1=0)&&decide (each.2.2=0))))then some (([],[],[],[],[]),each)else some ((J,L,M,N,O),(0,0,0))|.inr (D,Y,az,Z,ah,an,ar,_)=>bif (decide (D.1=0)&&(decide (D.2.1=0)&&decide (D.2.2=0)))then bif !Y then bif !((decide (1=0)&&(decide (0=0)&&decide (0=0))))then some (([],[],[],[],[]),(1,0,0))else none else bif !((decide (D.1=0)&&(decide (D.2.1=0)&&decide (D.2.2=0))))then some (([],[],[],[],[]),D)else none else bif !((decide (D.1=0)&&(decide (D.2.1=0)&&decide (D.2.2=0))))then some (([],[],[],[],[]),D)else none
def IY(p:ib)(s:aa):sQ:=(ym p.2.2.2.2 s).bind λD=>bif decide (D<0)then some (0,false)else(ag p.2.2.2.2 D).bind λF=>some (F.2,true)
def Ea(s:aa):q9:=(o0 s).bind λD=>some (s,D)
def CL(o:bL):Co:=(dS o).bind λJ=>match J with|.inl (word,F,_)=>(Ea word).bind λD=>bif !D.2 then(aZ 1 F).bind λ(L,_)=>some (.inr (L,()))else some (.inl (D.1,F,()))|.inr (M,_)=>some (.inr (M,()))
def EF(s:aa):q9:=(rK s).bind λD=>some (s,D)
def IJ(o:bL):Co:=(dS o).bind λJ=>match J with|.inl (word,F,_)=>(EF word).bind λD=>bif !D.2 then(aZ 1 F).bind λ(L,_)=>some (.inr (L,()))else some (.inl (D.1,F,()))|.inr (M,_)=>some (.inr (M,()))
def cmp_isNaN_string(x:aa):bX:=some (!decide (x=x))
def rG(x y:aa):bU:=(cmp_isNaN_string x).bind λF=>(cmp_isNaN_string y).bind λD=>bif F then bif D then some 0 else some (-1)else bif D then some 1 else bif Op.bytesLess x y then some (-1)else bif !(Op.bytesLess x y||decide (x=y))then some 1 else some 0
def cmp_isNaN_int(x:Int):bX:=some (!decide (x=x))
def mM(x y:Int):bU:=(cmp_isNaN_int x).bind λF=>(cmp_isNaN_int y).bind λD=>bif F then bif D then some 0 else some (-1)else bif D then some 1 else bif decide (x<y)then some (-1)else bif decide (y<x)then some 1 else some 0
def JW(a b:aa):bU:=let F:Bool->bU:=λD=>bif D then bif !decide ((a.length:Int)=(b.length:Int))then(mM (a.length:Int) (b.length:Int)).bind λL=>some L else(strings_Compare a b).bind λM=>some M else(strings_Compare a b).bind λN=>some N;(tE a).bind λD=>(tE b).bind λJ=>bif D then bif !J then some (-1)else bif J then bif !D then some 1 else F D else F D else bif J then bif !D then some 1 else F D else F D
def JL:Lp (ak×ak×gw) (ak×lK⊕gw):=λ(D,F,i,_)=>bif decide (i<(D.length:Int))then bif decide (i<(F.length:Int))then(ag D i).bind λM=>(ag F i).bind λN=>(JW M N).bind λL=>bif !decide (L=0)then some (.inr (.inr (L,())))else J (ab .i64 (i+1))<|some (.inl (D,F,(i+1),()))else some (.inr (.inl (D,F,())))else some (.inr (.inl (D,F,())))
def J6(a b:ak):bU:=(ae JL (a,b,0,())).bind λo=>match o with|.inl (D,F,_)=>(mM (D.length:Int) (F.length:Int)).bind λJ=>some J|.inr (L,_)=>some L
def yI:Lp (Int×uN) (uN⊕gw):=λ(D,M,N,F,an,O,U,Y,ar,_)=>let Z:Int->Option (Int×uN⊕uN⊕gw):=λL=>bif !decide (L=0)then some (.inr (.inr (L,())))else J (ab .i64 (D+1))<|some (.inl ((D+1),M,N,F,an,O,U,Y,ar,()));let ah:Int->Option (Int×uN⊕uN⊕gw):=λF=>if D=((2:Nat):Int)then(mM F Y).bind λL=>Z L else if D=((1:Nat):Int)then(mM F U).bind λaz=>Z az else if D=((0:Nat):Int)then(mM F O).bind λaE=>Z aE else none;bif decide (D<3)then if D=((2:Nat):Int)then ah F else if D=((1:Nat):Int)then ah N else if D=((0:Nat):Int)then ah M else none else some (.inr (.inl (M,N,F,an,O,U,Y,ar,())))
def tC(a b:gL):bU:=(ae yI (0,a.1.1,a.1.2.1,a.1.2.2,a.2,b.1.1,b.1.2.1,b.1.2.2,b.2,())).bind λo=>match o with|.inl (U,N,O,D,ah,Y,Z,F,_)=>bif decide (D=F)then some 0 else bif decide (D=[])then some 1 else bif decide (F=[])then some (-1)else(strings_Split D gB).bind λsplit=>(strings_Split F gB).bind λL=>(J6 split L).bind λJ=>some J|.inr (M,_)=>some M
def KC(a b:oM):bU:=(rG a.1 b.1).bind λD=>bif !decide (D=0)then some D else(tC a.2.1 b.2.1).bind λF=>some F
def IT(z F:oM):bX:=(KC F z).bind λD=>some (decide (D=0))
def yj:Lp (kV×oM×kW) pO:=λ(L,F,M,D,_)=>bif decide (D<M)then(ag L D).bind λO=>(IT O F).bind λN=>bif N then some (.inr (.inr (D,())))else J (ab .i64 (D+1))<|some (.inl (L,F,M,(D+1),()))else some (.inr (.inl (())))
def Pr(s:kV)(f:oM):bU:=(ae yj (s,f,(s.length:Int),0,())).bind λo=>match o with|.inl (_)=>some (-1)|.inr (D,_)=>some D
def Im(s:kV)(f:oM):bX:=(Pr s f).bind λD=>some (decide (0<=D))
def yQ(word:aa)(o:bL):Option (Bool×bL):=(iZ o).bind λD=>bif !D.1 then some (false,D.2)else(ag D.2.1.2.1 D.2.2).bind λF=>bif !decide (F=word)then some (false,D.2)else J (ab .i64 (D.2.2+1))<|some (true,(D.2.1,(D.2.2+1)))
def Da(o:aa)(em:Bool)(l:kV)(U:aa)(Z ah an:Int)(ar:aa)(az aE:Int)(a1:Bool)(a6:bL)(F L:cz)(D:Bool)(M:p7)(Y:aa)(N:cz):yd:=bif decide ((((bif em then 0 else l.length+1):Nat):Int)=60)then(aZ 2 a6).bind λ(pv,_)=>some (.inr (pv,em,l,F,L,D,M,N,()))else(IJ a6).bind λbb=>match bb with|.inl (take,b6,_)=>((yt b6).bind λbp=>match bp with|.inl (O,a7,_)=>((Im (bif em then[]else(l++[(U,((Z,ah,an),ar),az,aE,a1,F,L,(bif D then[]else(M++[(Y,N)])))])) (take,O,0,0,false,[],[],[])).bind λa8=>bif a8 then(aZ 3 a7).bind λ(b1,_)=>some (.inr (b1,em,l,F,L,D,M,N,()))else(yq a7).bind λbx=>match bx with|.inl (b7,b8,_)=>((IK b8).bind λb0=>match b0 with|.inl (ca,cc,_)=>(yQ Fl cc).bind λis=>J (l.length+2<=1000000000)<|some (.inl (o,false,(bif em then[]else(l++[(U,((Z,ah,an),ar),az,aE,a1,F,L,(bif D then[]else(M++[(Y,N)])))])),take,O.1.1,O.1.2.1,O.1.2.2,O.2,b7,ca,is.1,is.2,[],[],true,[],[],[],()))|.inr (b2,_)=>some (.inr (b2,em,l,F,L,D,M,N,())))|.inr (b3,_)=>some (.inr (b3,em,l,F,L,D,M,N,())))|.inr (b4,_)=>some (.inr (b4,em,l,F,L,D,M,N,())))|.inr (b5,_)=>some (.inr (b5,em,l,F,L,D,M,N,()))
def ze:Lp (aa×aM×Int×Int×Bt) (Bt⊕Bool×Bt):=λ(M,N,O,F,Y,Z,ah,an,ar,_)=>bif decide (F<O)then(ag N F).bind λU=>(EM U).bind λaz=>(C8 M az).bind λL=>bif L.2 then(vT L.1).bind λD=>some (.inr (.inr (D.2,U,D.1.1.1,D.1.1.2.1,D.1.1.2.2,D.1.2,())))else J (ab .i64 (F+1))<|some (.inl (M,N,O,(F+1),Y,Z,ah,an,ar,()))else some (.inr (.inl (Y,Z,ah,an,ar,())))
def K1(s:aa):Option ((Int×gL)×Bool):=bif decide (s=kN)then some ((8,(0,0,0),[]),true)else(ae ze (s,([1,3,5,2,4,6,7,0]:aM),(([1,3,5,2,4,6,7,0]:aM).length:Int),0,0,0,0,0,[],())).bind λo=>match o with|.inl (O,U,Y,Z,ah,_)=>some ((0,(0,0,0),[]),false)|.inr (N,D,F,J,L,M,_)=>some ((D,(F,J,L),M),N)
def Ei:Lp (ak×Int×Int×sP×Unit) (sP×Unit⊕Unit):=λ(M,N,D,L,_)=>bif decide (D<N)then(ag M D).bind λO=>(K1 O).bind λF=>bif !F.2 then some (.inr (.inr (())))else J (L.length+([F.1]:sP).length<=1000000000)<|J (ab .i64 (D+1))<|some (.inl (M,N,(D+1),(L++([F.1]:sP)),()))else some (.inr (.inl (L,())))
def Lx(s:aa):Option (sP×Bool):=(strings_Split s T6).bind λsplit=>bif decide (4<(split.length:Int))then some ([],false)else(ae Ei (split,(split.length:Int),0,[],())).bind λo=>match o with|.inl (D,_)=>some (D,true)|.inr (_)=>some ([],false)
def DG:Lp (ak×NL) (k8×Unit⊕Unit):=λ(M,N,D,L,_)=>bif decide (D<N)then(ag M D).bind λO=>(Lx O).bind λF=>bif !F.2 then some (.inr (.inr (())))else J (L.length+([F.1]:k8).length<=1000000000)<|J (ab .i64 (D+1))<|some (.inl (M,N,(D+1),(L++([F.1]:k8)),()))else some (.inr (.inl (L,())))
def Ej(s:aa):Option (k8×Bool):=(strings_Split s TI).bind λsplit=>bif decide (80<(s.length:Int))then some ([],false)else bif decide (4<(split.length:Int))then some ([],false)else(ae DG (split,(split.length:Int),0,[],())).bind λo=>match o with|.inl (D,_)=>some (D,true)|.inr (_)=>some ([],false)
def PW(o:bL):Option (k8×uM⊕sR):=(dS o).bind λJ=>match J with|.inl (word,F,_)=>(Ej word).bind λD=>bif !D.2 then(aZ 1 F).bind λ(L,_)=>some (.inr (L,()))else some (.inl (D.1,F,()))|.inr (M,_)=>some (.inr (M,()))
def qe:Lp (Int×adT) (adT⊕sR):=λ(M,Y,N,O,F,ah,an,ar,Z,_)=>bif decide (0<M)then(iZ ((ah,an,ar),Z)).bind λD=>bif D.1 then(CL D.2).bind λaE=>match aE with|.inl (U,L,_)=>(rE F U).bind λaz=>bif az then(aZ 3 L).bind λ(pv,_)=>some (.inr (.inr (pv,())))else bif decide ((F.length:Int)=M)then(aZ 2 L).bind λ(a1,_)=>some (.inr (.inr (a1,())))else J (F.length+([U]:ak).length<=1000000000)<|some (.inl (M,Y,N,O,(F++([U]:ak)),L.1.1,L.1.2.1,L.1.2.2,L.2,()))|.inr (a6,_)=>some (.inr (.inr (a6,())))else some (.inr (.inl (Y,N,O,F,D.2.1.1,D.2.1.2.1,D.2.1.2.2,D.2.2,())))else some (.inr (.inl (Y,N,O,F,ah,an,ar,Z,())))
def jS(F:Int)(o:bL):Option (pN×uM⊕sR):=(IJ o).bind λM=>match M with|.inl (take,a1,_)=>((PW a1).bind λah=>match ah with|.inl (a6,D,_)=>((ae qe (F,[],take,a6,[],D.1.1,D.1.2.1,D.1.2.2,D.2,())).bind λN=>match N with|.inl (a7,J,L,aE,O,U,Y,Z,_)=>some (.inl ((J,L,aE),((O,U,Y),Z),()))|.inr (an,_)=>some (.inr (an,())))|.inr (ar,_)=>some (.inr (ar,())))|.inr (az,_)=>some (.inr (az,()))
def JJ(o:aa)(em:Bool)(l:kV)(Y:aa)(an ar az:Int)(aE:aa)(a1 a6:Int)(a7:Bool)(O:bL)(D L:cz)(F:Bool)(M:p7)(Z:aa)(N:cz):yd:=only (!em)<|bif decide (0<(L.length:Int))then(aZ 1 O).bind λ(pv,_)=>some (.inr (pv,em,l,D,L,F,M,N,()))else only (!em)<|bif decide (0<(((bif F then 0 else M.length+1):Nat):Int))then(aZ 1 O).bind λ(a8,_)=>some (.inr (a8,em,l,D,L,F,M,N,()))else only (!em)<|bif decide ((D.length:Int)=4)then(aZ 2 O).bind λ(bb,_)=>some (.inr (bb,em,l,D,L,F,M,N,()))else only (!em)<|(jS 0 O).bind λah=>match ah with|.inl (U,bx,_)=>J (D.length+([U]:cz).length<=1000000000)<|only (!em)<|some (.inl (o,em,l,Y,an,ar,az,aE,a1,a6,a7,bx,(D++([U]:cz)),L,F,M,Z,N,()))|.inr (bp,_)=>some (.inr (bp,em,l,D,L,F,M,N,()))
def JA(o:aa)(em:Bool)(l:kV)(U:aa)(Z ah an:Int)(ar:aa)(az aE:Int)(a1:Bool)(O:bL)(N L:cz)(D:Bool)(F:p7)(Y:aa)(M:cz):yd:=only (!em)<|bif decide (0<(((bif D then 0 else F.length+1):Nat):Int))then only (!em)<|J (ab .i64 ((((bif D then 0 else F.length+1):Nat):Int)-1))<|only (!D)<|J (0<=((((bif D then 0 else F.length+1):Nat):Int)-1)/\((((bif D then 0 else F.length+1):Nat):Int)-1)<=(F.length:Int))<|bif decide (((((bif D then 0 else F.length+1):Nat):Int)-1)=(F.length:Int))then only (!D)<|bif decide ((M.length:Int)=8)then(aZ 2 O).bind λ(pv,_)=>some (.inr (pv,em,l,N,L,D,F,M,()))else only (!D)<|(jS 4 O).bind λa8=>match a8 with|.inl (a6,b4,_)=>J (M.length+([a6]:cz).length<=1000000000)<|only (!D)<|some (.inl (o,em,l,U,Z,ah,an,ar,az,aE,a1,b4,N,L,D,F,Y,(M++([a6]:cz)),()))|.inr (bx,_)=>some (.inr (bx,em,l,N,L,D,F,M,()))else only (!D)<|(F[((((bif D then 0 else F.length+1):Nat):Int)-1).toNat]?).bind λy=>bif decide ((y.2.length:Int)=8)then(aZ 2 O).bind λ(b0,_)=>some (.inr (b0,em,l,N,L,D,F,M,()))else only (!D)<|(F[((((bif D then 0 else F.length+1):Nat):Int)-1).toNat]?).bind λb8=>(jS 4 O).bind λbb=>match bb with|.inl (b6,b7,_)=>none|.inr (b1,_)=>some (.inr (b1,em,l,N,L,D,F,M,()))else only (!em)<|bif decide ((L.length:Int)=8)then(aZ 2 O).bind λ(b2,_)=>some (.inr (b2,em,l,N,L,D,F,M,()))else only (!em)<|(jS 4 O).bind λbp=>match bp with|.inl (a7,b5,_)=>J (L.length+([a7]:cz).length<=1000000000)<|only (!em)<|some (.inl (o,em,l,U,Z,ah,an,ar,az,aE,a1,b5,N,(L++([a7]:cz)),D,F,Y,M,()))|.inr (b3,_)=>some (.inr (b3,em,l,N,L,D,F,M,()))
def C6:Lp (aa×p7×kW) pO:=λ(F,L,M,D,_)=>bif decide (D<M)then(ag L D).bind λN=>bif decide (N.1=F)then some (.inr (.inr (D,())))else J (ab .i64 (D+1))<|some (.inl (F,L,M,(D+1),()))else some (.inr (.inl (())))
def tA(x:oM)(s:aa):bU:=(ae C6 (s,x.2.2.2.2.2.2.2,(x.2.2.2.2.2.2.2.length:Int),0,())).bind λo=>match o with|.inl (_)=>some (-1)|.inr (D,_)=>some D
def I8(o:aa)(em:Bool)(l:kV)(O:aa)(Y Z ah:Int)(an:aa)(ar az:Int)(aE:Bool)(a1:bL)(L M:cz)(F:Bool)(D:p7)(U:aa)(N:cz):yd:=only (!em)<|bif decide ((((bif F then 0 else D.length+1):Nat):Int)=4)then(aZ 2 a1).bind λ(pv,_)=>some (.inr (pv,em,l,L,M,F,D,N,()))else(CL a1).bind λa8=>match a8 with|.inl (take,a6,_)=>only (!em)<|(tA (O,((Y,Z,ah),an),ar,az,aE,L,M,(bif F then[]else(D++[(U,N)]))) take).bind λa7=>bif decide (0<=a7)then(aZ 3 a6).bind λ(bb,_)=>some (.inr (bb,em,l,L,M,F,D,N,()))else only (!em)<|J (D.length+2<=1000000000)<|only (!em)<|some (.inl (o,em,l,O,Y,Z,ah,an,ar,az,aE,a6,L,M,false,(bif F then[]else(D++[(U,N)])),take,[],()))|.inr (bp,_)=>some (.inr (bp,em,l,L,M,F,D,N,()))
def JB(o:aa)(em:Bool)(l:kV)(Y:aa)(ah an ar:Int)(az:aa)(aE a1:Int)(a6:Bool)(b6:bL)(M N:cz)(L:Bool)(O:p7)(Z:aa)(U:cz):yd:=let a7:bL->aa->yd:=λF D=>bif decide ((((bif em then 0 else l.length+1):Nat):Int)=0)then(aZ 1 F).bind λ(b8,_)=>some (.inr (b8,em,l,M,N,L,O,U,()))else J (ab .i64 ((((bif em then 0 else l.length+1):Nat):Int)-1))<|only (!em)<|J (0<=((((bif em then 0 else l.length+1):Nat):Int)-1)/\((((bif em then 0 else l.length+1):Nat):Int)-1)<=(l.length:Int))<|bif decide (((((bif em then 0 else l.length+1):Nat):Int)-1)=(l.length:Int))then bif decide (D=jg)then(JJ o em l Y ah an ar az aE a1 a6 F M N L O Z U).bind λb3=>match b3 with|.inl bb=>some (.inl bb)|.inr cc=>some (.inr cc)else bif decide (D=kG)then(JA o em l Y ah an ar az aE a1 a6 F M N L O Z U).bind λb4=>match b4 with|.inl bx=>some (.inl bx)|.inr cd=>some (.inr cd)else bif decide (D=gy)then(I8 o em l Y ah an ar az aE a1 a6 F M N L O Z U).bind λb5=>match b5 with|.inl bp=>some (.inl bp)|.inr cg=>some (.inr cg)else(aZ 1 F).bind λ(ch,_)=>some (.inr (ch,em,l,M,N,L,O,U,()))else bif decide (D=jg)then none else bif decide (D=kG)then none else bif decide (D=gy)then none else(aZ 1 F).bind λ(cj,_)=>some (.inr (cj,em,l,M,N,L,O,U,()));let a8:aa->bL->yd:=λD F=>bif !decide (o=[])then bif decide (D=S7)then(Da o em l Y ah an ar az aE a1 a6 F M N L O Z U).bind λb2=>match b2 with|.inl entry=>some (.inl entry)|.inr b7=>some (.inr b7)else a7 F D else a7 F D;(dS b6).bind λb0=>match b0 with|.inl (D,F,_)=>(bif decide (o=[])then bif decide (D=S6)then(CL F).bind λb1=>match b1 with|.inl (take,ck,_)=>some (.inl (take,em,l,Y,ah,an,ar,az,aE,a1,a6,ck,M,N,L,O,Z,U,()))|.inr (pv,_)=>some (.inr (pv,em,l,M,N,L,O,U,()))else a8 D F else a8 D F)|.inr (ca,_)=>some (.inr (ca,em,l,M,N,L,O,U,()))
def lg:Lp (gr×Int×Int×Wl) (Wl⊕Value×US):=λ(b5,b6,F,ar,L,az,aE,a1,a6,a7,a8,bb,bp,bx,b0,b1,M,b2,b3,b4,_)=>bif decide (F<b6)then(ag b5 F).bind λc3=>(JB ar L az aE a1 a6 a7 a8 bb bp bx (c3,0) b0 b1 M b2 b3 b4).bind λcw=>match cw with|.inl (line,N,an,cc,cd,cg,ch,cj,ck,cp,b7,b8,O,U,Y,Z,ca,ah)=>(iZ b8).bind λD=>bif D.1 then J (ab .i64 (D.2.2+1))<|(aZ 1 (D.2.1,(D.2.2+1))).bind λ(pv,_)=>some (.inr (.inr (pv,N,an,O,U,Y,Z,ah)))else J (ab .i64 (F+1))<|some (.inl (b5,b6,(F+1),line,N,an,cc,cd,cg,ch,cj,ck,cp,b7,O,U,Y,Z,ca,ah))|.inr cx=>some (.inr (.inr cx))else some (.inr (.inl (ar,L,az,aE,a1,a6,a7,a8,bb,bp,bx,b0,b1,M,b2,b3,b4,())))
def PY(l:gr)(o:aa)(em:Bool)(J:kV)(U:aa)(Y Z ah:Int)(az:aa)(aE a1:Int)(a6:Bool)(L M:cz)(D:Bool)(N:p7)(a7:aa)(O:cz):Option (jQ×Wl⊕jQ×US):=(ae lg (l,(l.length:Int),0,o,em,J,U,Y,Z,ah,az,aE,a1,a6,L,M,D,N,a7,O,())).bind λan=>match an with|.inl ar=>some (.inl ((0,0,0),ar))|.inr (a8,F)=>(pe a8).bind λq=>some (.inr (q,F))
def rJ(text:aa):Option ((aa×kV)×jQ):=(zz text).bind λD=>bif !((decide (D.2.1=0)&&(decide (D.2.2.1=0)&&decide (D.2.2.2=0))))then some (([],[]),D.2)else(PY D.1 [] true [] [] 0 0 0 [] 0 0 false [] [] true [] [] []).bind λo=>match o with|.inl (each,J,an,ar,az,aE,a1,a6,a7,a8,L,M,N,O,U,Y,Z,ah,_)=>bif !((decide (each.1=0)&&(decide (each.2.1=0)&&decide (each.2.2=0))))then some (([],[]),each)else bif decide (J=[])then some (([],[]),(1,0,0))else some ((J,(bif an then[]else(ar++[(az,((aE,a1,a6),a7),a8,L,M,N,O,(bif U then[]else(Y++[(Z,ah)])))]))),(0,0,0))|.inr (F,bb,bp,bx,b0,b1,b2,b3,_)=>bif !((decide (F.1=0)&&(decide (F.2.1=0)&&decide (F.2.2=0))))then some (([],[]),F)else none
def Jl:Lp (Bool×Int×aa×aa×ak×ad0) (Bool×ad0):=λ(bx,F,x1,bp,M,N,O,U,Y,Z,ah,an,ar,az,aE,a1,a6,a7,a8,bb,L,_)=>bif decide (F<(M.length:Int))then(ag M F).bind λb0=>(rJ b0).bind λD=>bif bx then J (L.length+([D.1]:rA).length<=1000000000)<|J (ab .i64 (F+1))<|some (.inl ((decide (D.2.1=0)&&(decide (D.2.2.1=0)&&decide (D.2.2.2=0))),(F+1),x1,bp,M,N,O,U,Y,Z,ah,an,ar,az,aE,a1,a6,a7,a8,bb,(L++([D.1]:rA)),()))else J (L.length+([D.1]:rA).length<=1000000000)<|J (ab .i64 (F+1))<|some (.inl (false,(F+1),x1,bp,M,N,O,U,Y,Z,ah,an,ar,az,aE,a1,a6,a7,a8,bb,(L++([D.1]:rA)),()))else some (.inr (bx,N,O,U,Y,Z,ah,an,ar,az,aE,a1,a6,a7,a8,bb,L,()))
def Df(x:xu):Option ((ib×Int×rA×lX×aa×oO)×Bool):=(Fo x.1 x.2.1 x.2.2).bind λF=>bif !F.2 then some ((([],[],[],[],[]),0,[],([],[],[],[],[]),[],[]),false)else(vZ x.1).bind λD=>bif !((decide (D.2.1=0)&&(decide (D.2.2.1=0)&&decide (D.2.2.2=0))))then some ((([],[],[],[],[]),0,[],([],[],[],[],[]),[],[]),false)else(IY D.1 x.2.1).bind λJ=>(ae Jl (J.2,0,x.1,x.2.1,x.2.2,0,[],D.1.1,D.1.2.1,D.1.2.2.1,D.1.2.2.2.1,D.1.2.2.2.2,J.1,F.1.1.1,F.1.1.2.1,F.1.1.2.2.1,F.1.1.2.2.2.1,F.1.1.2.2.2.2,F.1.2.1,F.1.2.2,[],())).bind λ(M,a8,bb,N,O,U,Y,Z,ah,an,ar,az,aE,a1,a6,a7,L,_)=>some (((N,O,U,Y,Z),ah,L,(an,ar,az,aE,a1),a6,a7),M)
def kz:Lp (gr×Int×Int×Int×Int×aT×Unit) (gr×Int×Int×Int×aT×Unit⊕kt):=λ(M,D,N,O,U,F,_)=>let bx:aa×c7->Option (gr×Int×Int×Int×Int×aT×Unit⊕gr×Int×Int×Int×aT×Unit⊕kt):=λL=>bif decide (0<D)then bif !decide (L.1=pg)then(fb 1 L.2).bind λbp=>bif decide (0<D)then(fy (F.length:Int) 8 bp).bind λca=>(fx 4 ca).bind λa6=>J (F.length+([a6.1]:aT).length<=1000000000)<|(gM a6.2).bind λb2=>(dJ b2).bind λZ=>bif !Z.1 then some (.inr (.inr (Z.2.2.2.1,Z.2.2.2.2.1,Z.2.2.2.2.2,())))else J (ab .i64 (D+1))<|some (.inl (M,(D+1),N,O,U,(F++([a6.1]:aT)),()))else(gM bp).bind λb3=>(dJ b3).bind λah=>bif !ah.1 then some (.inr (.inr (ah.2.2.2.1,ah.2.2.2.2.1,ah.2.2.2.2.2,())))else J (ab .i64 (D+1))<|some (.inl (M,(D+1),N,O,U,F,()))else bif decide (0<D)then(fy (F.length:Int) 8 L.2).bind λcc=>(fx 4 cc).bind λa7=>J (F.length+([a7.1]:aT).length<=1000000000)<|(gM a7.2).bind λb4=>(dJ b4).bind λan=>bif !an.1 then some (.inr (.inr (an.2.2.2.1,an.2.2.2.2.1,an.2.2.2.2.2,())))else J (ab .i64 (D+1))<|some (.inl (M,(D+1),N,O,U,(F++([a7.1]:aT)),()))else(gM L.2).bind λb5=>(dJ b5).bind λar=>bif !ar.1 then some (.inr (.inr (ar.2.2.2.1,ar.2.2.2.2.1,ar.2.2.2.2.2,())))else J (ab .i64 (D+1))<|some (.inl (M,(D+1),N,O,U,F,()))else bif decide (0<D)then(fy (F.length:Int) 8 L.2).bind λcd=>(fx 4 cd).bind λa8=>J (F.length+([a8.1]:aT).length<=1000000000)<|(gM a8.2).bind λb6=>(dJ b6).bind λaz=>bif !az.1 then some (.inr (.inr (az.2.2.2.1,az.2.2.2.2.1,az.2.2.2.2.2,())))else J (ab .i64 (D+1))<|some (.inl (M,(D+1),N,O,U,(F++([a8.1]:aT)),()))else(gM L.2).bind λb7=>(dJ b7).bind λaE=>bif !aE.1 then some (.inr (.inr (aE.2.2.2.1,aE.2.2.2.2.1,aE.2.2.2.2.2,())))else J (ab .i64 (D+1))<|some (.inl (M,(D+1),N,O,U,F,()));bif decide (D<(M.length:Int))then(ag M D).bind λcg=>(jz (cg,0,0,0,0)).bind λL=>bif decide (D=0)then bif !decide (L.1=Q2)then(fb 1 L.2).bind λbb=>bif decide (0<D)then(fy (F.length:Int) 8 bb).bind λb8=>(fx 4 b8).bind λa1=>J (F.length+([a1.1]:aT).length<=1000000000)<|(gM a1.2).bind λb0=>(dJ b0).bind λaH=>bif !aH.1 then some (.inr (.inr (aH.2.2.2.1,aH.2.2.2.2.1,aH.2.2.2.2.2,())))else J (ab .i64 (D+1))<|some (.inl (M,(D+1),N,O,U,(F++([a1.1]:aT)),()))else(gM bb).bind λb1=>(dJ b1).bind λY=>bif !Y.1 then some (.inr (.inr (Y.2.2.2.1,Y.2.2.2.2.1,Y.2.2.2.2.2,())))else J (ab .i64 (D+1))<|some (.inl (M,(D+1),N,O,U,F,()))else bx L else bx L else some (.inr (.inl (M,N,O,U,F,())))
def zJ(x:aa):Option (aT×jQ):=(zZ x).bind λD=>bif !decide (D.2.1=0)then some ([],D.2)else(ae kz (D.1,0,0,0,0,[],())).bind λo=>match o with|.inl (N,Y,O,U,F,_)=>bif decide ((N.length:Int)=0)then some ([],(1,0,0))else some (F,(0,0,0))|.inr (J,L,M,_)=>some ([],(J,L,M))
def Jk(o:bL)(D:Bool)(l:cz):Option (bL×sN⊕Value×sN):=let M:bL->aa->Option (bL×sN⊕Value×sN):=λF L=>bif !D then(aZ 1 F).bind λ(Y,_)=>some (.inr (Y,D,l,()))else bif !decide (L=pg)then(aZ 1 F).bind λ(Z,_)=>some (.inr (Z,D,l,()))else bif decide ((l.length:Int)=8)then(aZ 2 F).bind λ(ah,_)=>some (.inr (ah,D,l,()))else(jS 4 F).bind λU=>match U with|.inl (N,az,_)=>J (l.length+([N]:cz).length<=1000000000)<|some (.inl (az,D,(l++([N]:cz)),()))|.inr (an,_)=>some (.inr (an,D,l,()));(dS o).bind λO=>match O with|.inl (L,F,_)=>bif !D then bif decide (L=Q2)then some (.inl (F,true,l,()))else M F L else M F L|.inr (ar,_)=>some (.inr (ar,D,l,()))
def kv:Lp (gr×Int×Int×sN) (sN⊕Value×sN):=λ(U,Y,F,L,M,_)=>bif decide (F<Y)then(ag U F).bind λaz=>(Jk (az,0) L M).bind λZ=>match Z with|.inl (parse,N,O,_)=>(iZ parse).bind λD=>bif D.1 then J (ab .i64 (D.2.2+1))<|(aZ 1 (D.2.1,(D.2.2+1))).bind λ(pv,_)=>some (.inr (.inr (pv,N,O,())))else J (ab .i64 (F+1))<|some (.inl (U,Y,(F+1),N,O,()))|.inr (ar,ah,an,_)=>some (.inr (.inr (ar,ah,an,())))else some (.inr (.inl (L,M,())))
def PR(l:gr)(o:Bool)(D:cz):Option (jQ×sN⊕jQ×sN):=(ae kv (l,(l.length:Int),0,o,D,())).bind λM=>match M with|.inl (N,F,_)=>some (.inl ((0,0,0),N,F,()))|.inr (O,J,L,_)=>(pe O).bind λq=>some (.inr (q,J,L,()))
def yU(text:aa):Option (cz×jQ):=(zz text).bind λF=>bif !((decide (F.2.1=0)&&(decide (F.2.2.1=0)&&decide (F.2.2.2=0))))then some ([],F.2)else(PR F.1 false []).bind λo=>match o with|.inl (each,L,J,_)=>bif (decide (each.1=0)&&(decide (each.2.1=0)&&decide (each.2.2=0)))then bif !L then bif !((decide (1=0)&&(decide (0=0)&&decide (0=0))))then some ([],(1,0,0))else some (J,(0,0,0))else bif !((decide (each.1=0)&&(decide (each.2.1=0)&&decide (each.2.2=0))))then some ([],each)else some (J,(0,0,0))else bif !((decide (each.1=0)&&(decide (each.2.1=0)&&decide (each.2.2=0))))then some ([],each)else some (J,(0,0,0))|.inr (D,M,N,_)=>bif (decide (D.1=0)&&(decide (D.2.1=0)&&decide (D.2.2=0)))then bif !M then bif !((decide (1=0)&&(decide (0=0)&&decide (0=0))))then some ([],(1,0,0))else none else bif !((decide (D.1=0)&&(decide (D.2.1=0)&&decide (D.2.2=0))))then some ([],D)else none else bif !((decide (D.1=0)&&(decide (D.2.1=0)&&decide (D.2.2=0))))then some ([],D)else none
def C'(l top:Int):bX:=some (decide ((bits .andNot .u32 l top)=0))
def KA(D:aa):bU:=(zQ D).bind λL=>bif !L then some (-1)else(yJ D kN).bind λF=>bif !F.2 then J (ab .i64 (2*(D.length:Int)))<|J (ab .i64 ((2*(D.length:Int))+1))<|some ((2*(D.length:Int))+1)else J (ab .i64 (2*(F.1.length:Int)))<|some (2*(F.1.length:Int))
def P9(s F:aa):bX:=(CM s F).bind λD=>some D
def KQ(D s:aa):bX:=(zQ D).bind λL=>bif !L then some false else(rK s).bind λJ=>bif !J then some false else(yJ D kN).bind λF=>bif !F.2 then some (decide (D=s))else(P9 s F.1).bind λM=>some M
def qg:Lp (aa×Int×Int×ak×kW) gw:=λ(F,N,O,L,M,D,_)=>bif decide (D<M)then(ag L D).bind λY=>(KA Y).bind λU=>bif decide (O<U)then(KQ Y F).bind λZ=>bif Z then J (ab .i64 (D+1))<|some (.inl (F,D,U,L,M,(D+1),()))else J (ab .i64 (D+1))<|some (.inl (F,N,O,L,M,(D+1),()))else J (ab .i64 (D+1))<|some (.inl (F,N,O,L,M,(D+1),()))else some (.inr (N,()))
def DP(s:aa)(D:ak):bU:=(ae qg (s,(-1),(-1),D,(D.length:Int),0,())).bind λ(F,_)=>some F
def Dv:Lp (aa×fN×Int×Int×lK) (aa×lK):=λ(L,O,M,D,F,_)=>bif decide (D<M)then(ag O D).bind λN=>J (F.length+([N.1]:ak).length<=1000000000)<|J (ab .i64 (D+1))<|some (.inl (L,O,M,(D+1),(F++([N.1]:ak)),()))else some (.inr (L,F,()))
def DV(p:ib)(s:aa):bU:=(ae Dv (s,p.2.1,(p.2.1.length:Int),0,[],())).bind λ(J,F,_)=>(DP J F).bind λD=>some D
def Eg:Lp (ft×Int×Int×aa×Int×ak×lK) lK:=λ(N,O,D,Y,L,M,F,_)=>bif decide (D<O)then(ag N D).bind λU=>(rE M U.1).bind λZ=>bif (Z==(decide (L=0)))then J (F.length+([U.1]:ak).length<=1000000000)<|J (ab .i64 (D+1))<|some (.inl (N,O,(D+1),Y,L,M,(F++([U.1]:ak)),()))else J (ab .i64 (D+1))<|some (.inl (N,O,(D+1),Y,L,M,F,()))else some (.inr (F,()))
def Lv(p:ib)(c:NH):Bh:=bif decide (c.2.1=2)then(Fe c.2.2).bind λD=>some D else(ae Eg (p.1,(p.1.length:Int),0,c.1,c.2.1,c.2.2,[],())).bind λ(F,_)=>some F
def Dg:Lp (ft×Int×Int×lK) lK:=λ(L,M,D,F,_)=>bif decide (D<M)then(ag L D).bind λN=>bif N.2.2 then J (F.length+([N.1]:ak).length<=1000000000)<|J (ab .i64 (D+1))<|some (.inl (L,M,(D+1),(F++([N.1]:ak)),()))else J (ab .i64 (D+1))<|some (.inl (L,M,(D+1),F,()))else some (.inr (F,()))
def yV(p:ib)(s:aa):Bh:=(rK s).bind λJ=>bif !J then some []else(DV p s).bind λD=>bif decide (0<=D)then(ag p.2.1 D).bind λM=>(Lv p M).bind λF=>some F else(ae Dg (p.1,(p.1.length:Int),0,[],())).bind λ(L,_)=>some L
def DF(p:ib)(s source:aa):bX:=(yV p s).bind λF=>(rE F source).bind λD=>some D
def Qa(p:ib)(s:aa):Option (gL×Bool):=(yu p.2.2.1 s).bind λD=>bif decide (D<0)then some (((0,0,0),[]),false)else(ag p.2.2.1 D).bind λF=>some (F.2,true)
def yG(p:ib)(s:aa)(d:Int):bX:=(yr p.2.2.2.1 s).bind λD=>bif decide (D<0)then some true else(ag p.2.2.2.1 D).bind λJ=>(yy J.2 d).bind λF=>some F
def Fg(p:ib)(x:oM):bU:=(Qa p x.1).bind λga=>bif ga.2 then bif !((decide (ga.1.1.1=x.2.1.1.1)&&(decide (ga.1.1.2.1=x.2.1.1.2.1)&&(decide (ga.1.1.2.2=x.2.1.1.2.2)&&decide (ga.1.2=x.2.1.2)))))then some 1 else(yG p x.1 x.2.2.1).bind λD=>bif !D then some 2 else bif x.2.2.2.2.1 then bif !ga.2 then some 3 else some 0 else some 0 else(yG p x.1 x.2.2.1).bind λF=>bif !F then some 2 else bif x.2.2.2.2.1 then bif !ga.2 then some 3 else some 0 else some 0
def JX(p:ib)(a b:aa):bU:=let L:Int->Int->bU:=λD F=>bif decide (D<0)then some 1 else bif decide (F<0)then some (-1)else(ag p.1 F).bind λO=>(ag p.1 D).bind λU=>(Dw O.2.1 U.2.1).bind λJ=>bif !decide (J=0)then some J else(rG a b).bind λN=>some N;(tt p a).bind λD=>(tt p b).bind λF=>bif decide (D<0)then bif decide (F<0)then(rG a b).bind λM=>some M else L D F else L D F
def qi(a b:NI)(L:ib):bU:=(rG a.1.1.1 b.1.1.1).bind λD=>bif !decide (D=0)then some D else(tC b.1.1.2.1 a.1.1.2.1).bind λF=>bif !decide (F=0)then some F else(JX L a.1.2 b.1.2).bind λJ=>some J
def af1(a b:Int)(cmp:ib)(l:jw):uO:=vF qi a b cmp l
def agc(a b n:Int)(cmp:ib)(l:jw):uO:=vI a b n cmp l
def agm(a m b:Int)(cmp:ib)(l:jw):uO:=vQ a m b cmp l
def af9(rc:adS):adS:=tu qi rc
def agl(n:Int)(cmp:ib)(l:jw):uO:=Dm qi n cmp l
def CE(cmp:ib)(l:jw):uO:=yM qi cmp l
def DU(p:ib)(s:aa):bX:=(DV p s).bind λD=>bif decide (0<=D)then(ag p.2.1 D).bind λF=>some (decide (F.2.1=2))else some false
def JK(y:NI)(M:jw)(O:Int)(D:ak)(F:Int):bX:=(ag M O).bind λN=>bif decide (y.1.1.1=N.1.1.1)then bif decide (y.2=0)then(mL D y.1.2).bind λJ=>some (decide (J<F))else bif decide (y.2=4)then(mL D y.1.2).bind λL=>some (decide (L<F))else some false else some false
def yl:Lp (jw×jw×Int×ak×kt) pO:=λ(O,F,L,M,N,U,D,_)=>bif decide (D<U)then(ag O D).bind λZ=>(JK Z F L M N).bind λY=>bif Y then some (.inr (.inr (D,())))else J (ab .i64 (D+1))<|some (.inl (O,F,L,M,N,U,(D+1),()))else some (.inr (.inl (())))
def PB(s f:jw)(D:Int)(F:ak)(J:Int):bU:=(ae yl (s,f,D,F,J,(s.length:Int),0,())).bind λo=>match o with|.inl (_)=>some (-1)|.inr (L,_)=>some L
def Iu(s f:jw)(D:Int)(F:ak)(J:Int):bX:=(PB s f D F J).bind λL=>some (decide (0<=L))
def oU:Lp UU NO:=λ(Y,D,L,M,N,O,U,F,_)=>bif decide (D<Y)then J (0<=D/\D<F.length)<|(F[D.toNat]?).bind λy=>bif !decide (y.2=0)then J (ab .i64 (D+1))<|some (.inl (Y,(D+1),L,M,N,O,U,F,()))else J (0<=D/\D<F.length)<|(F[D.toNat]?).bind λaz=>(DU (L,M,N,O,U) az.1.1.1).bind λan=>bif !an then J (ab .i64 (D+1))<|some (.inl (Y,(D+1),L,M,N,O,U,F,()))else J (0<=D/\D<F.length)<|(F[D.toNat]?).bind λaE=>(yV (L,M,N,O,U) aE.1.1.1).bind λZ=>J (0<=D/\D<F.length)<|(F[D.toNat]?).bind λa1=>(mL Z a1.1.2).bind λar=>(Iu F F D Z ar).bind λah=>bif ah then J (0<=D/\D<F.length)<|(F[D.toNat]?).bind λq=>J (ab .i64 (D+1))<|some (.inl (Y,(D+1),L,M,N,O,U,(F.set D.toNat (q.1,4)),()))else J (ab .i64 (D+1))<|some (.inl (Y,(D+1),L,M,N,O,U,F,()))else some (.inr (F,()))
def Ed(p:ib)(l:jw):uO:=(ae oU ((l.length:Int),0,p.1,p.2.1,p.2.2.1,p.2.2.2.1,p.2.2.2.2,l,())).bind λ(D,_)=>some D
def zo:Lp (Int×rA×Int×Int×kV×Int×Int×ft×fN×gg×gh×iH×aa×kV×NO) (Int×rA×UU):=λ(U,ah,an,ar,az,aE,D,F,L,M,N,O,x,a1,Y,_)=>bif decide (D<aE)then(ag az D).bind λZ=>(C' Z.2.2.2.1 U).bind λa8=>bif a8 then(DF (F,L,M,N,O) Z.1 x).bind λa7=>bif a7 then(Fg (F,L,M,N,O) Z).bind λa6=>J (Y.length+([((Z,x),a6)]:jw).length<=1000000000)<|J (ab .i64 (D+1))<|some (.inl (U,ah,an,ar,az,aE,(D+1),F,L,M,N,O,x,a1,(Y++([((Z,x),a6)]:jw)),()))else J (ab .i64 (D+1))<|some (.inl (U,ah,an,ar,az,aE,(D+1),F,L,M,N,O,x,a1,Y,()))else J (ab .i64 (D+1))<|some (.inl (U,ah,an,ar,az,aE,(D+1),F,L,M,N,O,x,a1,Y,()))else some (.inr (U,ah,an,ar,F,L,M,N,O,Y,()))
def zn:Lp (Int×rA×UU) adZ:=λ(ar,Z,ah,F,M,N,O,U,L,Y,_)=>bif decide (F<ah)then(ag Z F).bind λD=>(ae zo (ar,Z,ah,F,D.2,(D.2.length:Int),0,M,N,O,U,L,D.1,D.2,Y,())).bind λ(az,bp,bx,an,aE,a1,a6,a7,a8,bb,_)=>J (ab .i64 (an+1))<|some (.inl (az,bp,bx,(an+1),aE,a1,a6,a7,a8,bb,()))else some (.inr (M,N,O,U,L,Y,()))
def Lr(p:ib)(Z:Int)(cat:rA):uO:=(ae zn (Z,cat,(cat.length:Int),0,p.1,p.2.1,p.2.2.1,p.2.2.2.1,p.2.2.2.2,[],())).bind λ(L,M,N,O,U,Y,_)=>(CE (L,M,N,O,U) Y).bind λD=>J (Y.length=D.length)<|(Ed (L,M,N,O,U) D).bind λF=>J (D.length=F.length)<|some F
def Ee:Lp (jw×Int×Int×iG×Unit) (iG×Unit):=λ(M,N,D,F,_)=>bif decide (D<N)then(ag M D).bind λL=>bif decide (L.2=0)then J (F.length+([L.1]:iG).length<=1000000000)<|J (ab .i64 (D+1))<|some (.inl (M,N,(D+1),(F++([L.1]:iG)),()))else J (ab .i64 (D+1))<|some (.inl (M,N,(D+1),F,()))else some (.inr (F,()))
def Ls(l:jw):Option iG:=(ae Ee (l,(l.length:Int),0,[],())).bind λ(D,_)=>some D
def DH:Lp Gr gw:=λ(F,D,i,_)=>bif decide (0<=i)then J (ab .u32 (D*2))<|(ag F i).bind λL=>J (ab .u32 ((D*2)+(av4 .u32 L)))<|J (ab .i64 (i-1))<|some (.inl (F,((D*2)+(av4 .u32 L)),(i-1),()))else some (.inr (D,()))
def Es(l:aM):bU:=J (ab .i64 ((l.length:Int)-1))<|(ae DH (l,0,((l.length:Int)-1),())).bind λ(D,_)=>some D
def D1:Lp kt oD:=λ(D,F,i,_)=>bif decide (i<32)then J (0<=i)<|J ((2:Int)≠0)<|bif decide (((D.fdiv (2^(min i.toNat (av9 .u32)))).tmod 2)=1)then J (0<=i)<|J ((2:Int)≠0)<|bif decide (((F.fdiv (2^(min i.toNat (av9 .u32)))).tmod 2)=0)then some (.inr (.inr (())))else J (ab .i64 (i+1))<|some (.inl (D,F,(i+1),()))else J (ab .i64 (i+1))<|some (.inl (D,F,(i+1),()))else some (.inr (.inl (())))
def K9(a b:Int):bX:=(ae D1 (a,b,0,())).bind λo=>match o with|.inl (_)=>some true|.inr (_)=>some false
def K6(labels D:aa):bX:=(zt labels).bind λF=>(zt D).bind λJ=>(Es F.1).bind λL=>(Es J.1).bind λM=>(K9 L M).bind λN=>some N
def CS:adN:=λ(i,M,D,N,O,U,F,_)=>bif decide (i<(D.length:Int))then(ag D i).bind λL=>J (F.length+([L.1]:ak).length<=1000000000)<|J (ab .i64 (i+1))<|some (.inl ((i+1),M,D,N,O,U,(F++([L.1]:ak)),()))else some (.inr (F,()))
def P6(p:lX):Bh:=(ae CS (0,p.1,p.2.1,p.2.2.1,p.2.2.2.1,p.2.2.2.2,[],())).bind λ(D,_)=>some D
def La(g s:aa):bX:=(zX g).bind λF=>bif !F then some false else(wk s).bind λD=>bif !D then some false else(zW g).bind λL=>bif !L then some (decide (g=s))else J (ab .i64 ((g.length:Int)-1))<|bif decide (((g.length:Int)-1)<=(s.length:Int))then J (0<=(0:Int)/\(0:Int)<=((g.length:Int)-1)/\((g.length:Int)-1)<=s.length)<|J (0<=(0:Int)/\(0:Int)<=((g.length:Int)-1)/\((g.length:Int)-1)<=g.length)<|some (decide (((s.take ((g.length:Int)-1).toNat).drop (0:Int).toNat)=((g.take ((g.length:Int)-1).toNat).drop (0:Int).toNat)))else some false
def Et(g:aa):bU:=(zX g).bind λD=>bif !D then some (-1)else(zW g).bind λF=>bif F then J (ab .i64 ((g.length:Int)-1))<|J (ab .i64 (2*((g.length:Int)-1)))<|some (2*((g.length:Int)-1))else J (ab .i64 (2*(g.length:Int)))<|J (ab .i64 ((2*(g.length:Int))+1))<|some ((2*(g.length:Int))+1)
def nQ:Lp (aa×ak×kW) gw:=λ(L,D,F,i,_)=>bif decide (i<(D.length:Int))then(ag D i).bind λU=>(La U L).bind λM=>bif M then bif decide (F<0)then J (ab .i64 (i+1))<|some (.inl (L,D,i,(i+1),()))else(ag D i).bind λY=>(Et Y).bind λN=>(ag D F).bind λZ=>(Et Z).bind λO=>bif decide (O<N)then J (ab .i64 (i+1))<|some (.inl (L,D,i,(i+1),()))else J (ab .i64 (i+1))<|some (.inl (L,D,F,(i+1),()))else J (ab .i64 (i+1))<|some (.inl (L,D,F,(i+1),()))else some (.inr (F,()))
def D2(s:aa)(l:ak):bU:=(ae nQ (s,l,(-1),0,())).bind λ(D,_)=>some D
def EY(p:lX)(s:aa):bU:=(P6 p).bind λD=>(D2 s D).bind λF=>some F
def Fp:Lp (Int×jv×aT×br×gf×br×aa×aa×ak×lK) lK:=λ(i,M,Y,Z,ah,an,U,L,N,F,_)=>let ar:Bool->aa×q8->Option (Int×jv×aT×br×gf×br×aa×aa×ak×lK⊕lK):=λO D=>bif decide (L=pj)then bif !O then J (F.length+([D.1]:ak).length<=1000000000)<|J (ab .i64 (i+1))<|some (.inl ((i+1),M,Y,Z,ah,an,U,L,N,(F++([D.1]:ak)),()))else J (ab .i64 (i+1))<|some (.inl ((i+1),M,Y,Z,ah,an,U,L,N,F,()))else J (ab .i64 (i+1))<|some (.inl ((i+1),M,Y,Z,ah,an,U,L,N,F,()));bif decide (i<(M.length:Int))then(ag M i).bind λD=>(nY N D.1).bind λO=>bif decide (L=iK)then bif O then J (F.length+([D.1]:ak).length<=1000000000)<|J (ab .i64 (i+1))<|some (.inl ((i+1),M,Y,Z,ah,an,U,L,N,(F++([D.1]:ak)),()))else ar O D else ar O D else some (.inr (F,()))
def Mx(p:lX)(c:xu):Bh:=bif decide (c.2.1=im)then J (c.2.2.length<=1000000000)<|some c.2.2 else(ae Fp (0,p.1,p.2.1,p.2.2.1,p.2.2.2.1,p.2.2.2.2,c.1,c.2.1,c.2.2,[],())).bind λ(D,_)=>some D
def Dz:adN:=λ(i,D,L,M,N,O,F,_)=>bif decide (i<(D.length:Int))then(ag D i).bind λY=>bif decide (Y.2.2=jV)then(ag D i).bind λU=>J (F.length+([U.1]:ak).length<=1000000000)<|J (ab .i64 (i+1))<|some (.inl ((i+1),D,L,M,N,O,(F++([U.1]:ak)),()))else J (ab .i64 (i+1))<|some (.inl ((i+1),D,L,M,N,O,F,()))else some (.inr (F,()))
def DY(p:lX)(s:aa):Bh:=(wk s).bind λJ=>bif !J then some []else(EY p s).bind λD=>bif decide (0<=D)then(ag p.2.1 D).bind λM=>(Mx p M).bind λF=>some F else(ae Dz (0,p.1,p.2.1,p.2.2.1,p.2.2.2.1,p.2.2.2.2,[],())).bind λ(L,_)=>some L
def EZ:Lp (gf×aa×mD) (Unit⊕Bool×Unit):=λ(D,L,F,i,_)=>bif decide (i<(D.length:Int))then(ag D i).bind λN=>bif decide (N.1=L)then(ag D i).bind λO=>(nY O.2 F).bind λM=>some (.inr (.inr (M,())))else J (ab .i64 (i+1))<|some (.inl (D,L,F,(i+1),()))else some (.inr (.inl (())))
def Aj(l:gf)(s D:aa):bX:=(ae EZ (l,s,D,0,())).bind λo=>match o with|.inl (_)=>some true|.inr (F,_)=>some F
def FC(p:lX)(x:ye):bU:=(wE p.2.2.1 x.1).bind λD=>bif D.2 then bif !decide (D.1=x.2.1)then some 1 else(Aj p.2.2.2.1 x.1 x.2.2.1).bind λF=>bif !F then some 2 else bif x.2.2.2.2.1 then bif !D.2 then some 3 else some 0 else some 0 else(Aj p.2.2.2.1 x.1 x.2.2.1).bind λJ=>bif !J then some 2 else bif x.2.2.2.2.1 then bif !D.2 then some 3 else some 0 else some 0
def rT(a b:Int):bU:=bif decide (a<b)then some (-1)else bif decide (b<a)then some 1 else some 0
def Ks:Lp (aa×mD) (aa×p6⊕gw):=λ(D,F,i,_)=>bif decide (i<(D.length:Int))then bif decide (i<(F.length:Int))then(ag D i).bind λL=>(ag F i).bind λM=>bif !decide ((L.toNat:Int)=(M.toNat:Int))then(ag D i).bind λN=>(ag F i).bind λO=>(rT (av4 .i64 (N.toNat:Int)) (av4 .i64 (O.toNat:Int))).bind λU=>some (.inr (.inr (U,())))else J (ab .i64 (i+1))<|some (.inl (D,F,(i+1),()))else some (.inr (.inl (D,F,())))else some (.inr (.inl (D,F,())))
def qo(a b:aa):bU:=(ae Ks (a,b,0,())).bind λo=>match o with|.inl (D,F,_)=>(rT (D.length:Int) (F.length:Int)).bind λJ=>some J|.inr (L,_)=>some L
def Ld(a b:aa):bU:=(zx a).bind λD=>(zx b).bind λF=>bif D then bif F then(oZ a).bind λN=>(oZ b).bind λO=>(rT N.1 O.1).bind λM=>some M else bif D then some (-1)else bif F then some 1 else(qo a b).bind λJ=>some J else bif D then some (-1)else bif F then some 1 else(qo a b).bind λL=>some L
def J3:Lp (aM×aM×Int×NU) (NU⊕gw):=λ(F,L,D,M)=>bif decide (D<3)then(ag F D).bind λO=>(ag L D).bind λU=>bif !decide (O=U)then(ag F D).bind λY=>(ag L D).bind λZ=>(rT Y Z).bind λN=>some (.inr (.inr (N,())))else J (ab .i64 (D+1))<|some (.inl (F,L,(D+1),M))else some (.inr (.inl (M)))
def DA:Lp (Int×NU) (NU⊕gw):=λ(D,M,N,O,F,U,Y,Z,L,_)=>bif decide (D<(F.length:Int))then bif decide (D<(L.length:Int))then(ag F D).bind λan=>(ag L D).bind λar=>(Ld an ar).bind λah=>bif !decide (ah=0)then some (.inr (.inr (ah,())))else J (ab .i64 (D+1))<|some (.inl ((D+1),M,N,O,F,U,Y,Z,L,()))else some (.inr (.inl (M,N,O,F,U,Y,Z,L,())))else some (.inr (.inl (M,N,O,F,U,Y,Z,L,())))
def tI(x L:pP):bU:=let N:ak->ak->bU:=λF D=>(rT (F.length:Int) (D.length:Int)).bind λM=>J (ab .i64 ((D.length:Int)+(F.length:Int)))<|J (ab .i64 (M*(if((D.length:Int)+(F.length:Int))<1 then((D.length:Int)+(F.length:Int))else 1)))<|some (M*(if((D.length:Int)+(F.length:Int))<1 then((D.length:Int)+(F.length:Int))else 1));(ae J3 (([x.1,x.2.1,x.2.2.1]:aM),([L.1,L.2.1,L.2.2.1]:aM),0,x.1,x.2.1,x.2.2.1,x.2.2.2,L.1,L.2.1,L.2.2.1,L.2.2.2,())).bind λo=>match o with|.inl (ah,an,Y,D,aE,a1,ar,F,_)=>(bif decide ((D.length:Int)=0)then N F D else bif decide ((F.length:Int)=0)then N F D else(ae DA (0,ah,an,Y,D,aE,a1,ar,F,())).bind λU=>match U with|.inl (a8,bb,bp,Z,bx,b0,b1,az,_)=>(rT (Z.length:Int) (az.length:Int)).bind λO=>some O|.inr (a6,_)=>some a6)|.inr (a7,_)=>some a7
def FD(b:Int):bU:=(Fs b).bind λD=>bif decide (D=0)then some 0 else J (0<=(63:Int))<|bif decide ((b.fdiv (2^(min (63:Int).toNat (av9 .u64))))=1)then some (bits .xor .u64 (if(IntKind.signed .u64)then-1 else(IntKind.max .u64)) b)else some (bits .or .u64 b 9223372036854775808)
def Kt(a b:Int):bU:=(FD a).bind λD=>(FD b).bind λF=>bif decide (D<F)then some (-1)else bif decide (F<D)then some 1 else some 0
def DZ(p:lX)(a b:aa):bU:=let J:Int->Int->bU:=λD F=>bif decide (0<=D)then(ag p.1 D).bind λU=>(nT U.2.1).bind λbits=>(ag p.1 F).bind λY=>(nT Y.2.1).bind λM=>(Kt M.1 bits.1).bind λL=>bif !decide (L=0)then some L else(qo a b).bind λN=>some N else(qo a b).bind λO=>some O;(vO p a).bind λD=>(vO p b).bind λF=>bif decide (D<0)then bif decide (0<=F)then some 1 else bif decide (0<=D)then bif decide (F<0)then some (-1)else J D F else J D F else bif decide (0<=D)then bif decide (F<0)then some (-1)else J D F else J D F
def EW(p:lX)(a b:ye×Bn):bX:=(qo a.1.1 b.1.1).bind λD=>bif decide (D=0)then(rP a.1.2.1).bind λM=>(rP b.1.2.1).bind λN=>(tI N.1 M.1).bind λF=>bif decide (F=0)then(DZ p a.2.1 b.2.1).bind λJ=>some (decide (J<0))else some (decide (F<0))else bif decide (D=0)then(DZ p a.2.1 b.2.1).bind λL=>some (decide (L<0))else some (decide (D<0))
def DX:Lp (ak×mD) pO:=λ(D,F,i,_)=>bif decide (i<(D.length:Int))then(ag D i).bind λL=>bif decide (L=F)then some (.inr (.inr (i,())))else J (ab .i64 (i+1))<|some (.inl (D,F,(i+1),()))else some (.inr (.inl (())))
def EU(l:ak)(s:aa):bU:=(ae DX (l,s,0,())).bind λo=>match o with|.inl (_)=>some (-1)|.inr (D,_)=>some D
def zg:Lp (dr×Int×ak×UW) (dr×UW):=λ(F,L,N,D,O,U,Y,Z,ah,M,_)=>bif decide (D<(F.length:Int))then(ag F D).bind λaz=>(ag F L).bind λaE=>bif decide (az.1.1=aE.1.1)then(ag F D).bind λa1=>bif decide (a1.2.2=0)then(ag F D).bind λa6=>(EU N a6.2.1).bind λan=>(ag F L).bind λa7=>(EU N a7.2.1).bind λar=>bif decide (an<ar)then J (0<=L/\L<M.length)<|(M[L.toNat]?).bind λq=>J (ab .i64 (D+1))<|some (.inl (F,L,N,(D+1),O,U,Y,Z,ah,(M.set L.toNat (q.1,q.2.1,4)),()))else J (ab .i64 (D+1))<|some (.inl (F,L,N,(D+1),O,U,Y,Z,ah,M,()))else J (ab .i64 (D+1))<|some (.inl (F,L,N,(D+1),O,U,Y,Z,ah,M,()))else J (ab .i64 (D+1))<|some (.inl (F,L,N,(D+1),O,U,Y,Z,ah,M,()))else some (.inr (F,L,O,U,Y,Z,ah,M,()))
def oY:Lp (dr×UW) (dr×Unit):=λ(F,D,N,L,O,U,Y,M)=>bif decide (D<(F.length:Int))then(ag F D).bind λar=>(EY (N,L,O,U,Y) ar.1.1).bind λZ=>(ag F D).bind λaz=>bif !decide (az.2.2=0)then J (ab .i64 (D+1))<|some (.inl (F,(D+1),N,L,O,U,Y,M))else bif decide (Z<0)then J (ab .i64 (D+1))<|some (.inl (F,(D+1),N,L,O,U,Y,M))else(ag L Z).bind λa1=>bif !decide (a1.2.1=im)then J (ab .i64 (D+1))<|some (.inl (F,(D+1),N,L,O,U,Y,M))else(ag L Z).bind λa6=>(ae zg (F,D,a6.2.2,0,N,L,O,U,Y,M)).bind λ(an,ah,aE)=>J (ab .i64 (ah+1))<|some (.inl (an,(ah+1),aE))else some (.inr (M))
def EV(x:lX)(D:dr):Option dr:=J (D.length<=1000000000)<|(ae oY (D,0,x.1,x.2.1,x.2.2.1,x.2.2.2.1,x.2.2.2.2,D,())).bind λ(F,_)=>some F
def tK:Lp adX adX:=λ(a8,bb,a7,bp,bx,D,ar,az,aE,a1,a6,F,L,M,N,O,U,Y,Z,ah,an,_)=>bif decide (0<D)then J (ab .i64 (D-1))<|(ag a7 (D-1)).bind λb1=>(EW (ar,az,aE,a1,a6) ((F,L,M,N,O,U,Y,Z),ah,an) b1).bind λb0=>bif b0 then J (ab .i64 (D-1))<|some (.inl (a8,bb,a7,bp,bx,(D-1),ar,az,aE,a1,a6,F,L,M,N,O,U,Y,Z,ah,an,()))else some (.inr (a8,bb,a7,bp,bx,D,ar,az,aE,a1,a6,F,L,M,N,O,U,Y,Z,ah,an,()))else some (.inr (a8,bb,a7,bp,bx,D,ar,az,aE,a1,a6,F,L,M,N,O,U,Y,Z,ah,an,()))
def rO:Lp (aa×oO×dr×Int×Bk) (aa×oO×dr×Bk):=λ(ar,M,az,N,O,U,Y,Z,ah,an,_)=>(ag M N).bind λca=>bif decide (O<(ca.2.length:Int))then(ag M N).bind λcd=>(ag cd.2 O).bind λF=>(ag M N).bind λb2=>(K6 F.2.2.2.1 ar).bind λb6=>bif !b6 then J (ab .i64 (O+1))<|some (.inl (ar,M,az,N,(O+1),U,Y,Z,ah,an,()))else(DY (U,Y,Z,ah,an) F.1).bind λb5=>(nY b5 b2.1).bind λb4=>bif !b4 then J (ab .i64 (O+1))<|some (.inl (ar,M,az,N,(O+1),U,Y,Z,ah,an,()))else(FC (U,Y,Z,ah,an) F).bind λb7=>(ae tK (ar,M,az,N,O,(az.length:Int),U,Y,Z,ah,an,F.1,F.2.1,F.2.2.1,F.2.2.2.1,F.2.2.2.2.1,F.2.2.2.2.2.1,F.2.2.2.2.2.2.1,F.2.2.2.2.2.2.2,b2.1,b7,())).bind λ(b8,cc,D,cw,b3,L,cg,ch,cj,ck,cp,aE,a1,a6,a7,a8,bb,bp,bx,b0,b1,_)=>J (0<=(0:Int)/\(0:Int)<=L/\L<=D.length)<|J (((D.take L.toNat).drop (0:Int).toNat).length<=1000000000)<|J (((D.take L.toNat).drop (0:Int).toNat).length+([((aE,a1,a6,a7,a8,bb,bp,bx),b0,b1)]:dr).length<=1000000000)<|J (0<=L/\L<=(D.length:Int)/\(D.length:Int)<=D.length)<|J ((((D.take L.toNat).drop (0:Int).toNat)++([((aE,a1,a6,a7,a8,bb,bp,bx),b0,b1)]:dr)).length+((D.take (D.length:Int).toNat).drop L.toNat).length<=1000000000)<|J (ab .i64 (b3+1))<|some (.inl (b8,cc,((((D.take L.toNat).drop (0:Int).toNat)++([((aE,a1,a6,a7,a8,bb,bp,bx),b0,b1)]:dr))++((D.take (D.length:Int).toNat).drop L.toNat)),cw,(b3+1),cg,ch,cj,ck,cp,()))else some (.inr (ar,M,az,N,U,Y,Z,ah,an,()))
def zI:Lp (aa×oO×dr×Bk) (dr×O8):=λ(O,D,L,M,F)=>bif decide (M<(D.length:Int))then(ae rO (O,D,L,M,0,F)).bind λ(U,Y,ah,N,Z)=>J (ab .i64 (N+1))<|some (.inl (U,Y,ah,(N+1),Z))else some (.inr (L,F))
def L3(x:lX)(F:aa)(J:oO):Option dr:=(ae zI (F,J,[],0,x.1,x.2.1,x.2.2.1,x.2.2.2.1,x.2.2.2.2,())).bind λ(Y,L,M,N,O,U,_)=>(EV (L,M,N,O,U) Y).bind λD=>some D
def EX:Lp (dr×Int×dr×Unit) (dr×Unit):=λ(D,i,F,_)=>bif decide (i<(D.length:Int))then(ag D i).bind λM=>bif decide (M.2.2=0)then(ag D i).bind λL=>J (F.length+([L]:dr).length<=1000000000)<|J (ab .i64 (i+1))<|some (.inl (D,(i+1),(F++([L]:dr)),()))else J (ab .i64 (i+1))<|some (.inl (D,(i+1),F,()))else some (.inr (F,()))
def L4(l:dr):Option dr:=(ae EX (l,0,[],())).bind λ(D,_)=>some D
def yS(x:att):Option (atr×Bool):=(Df x.1).bind λD=>(zJ x.2).bind λM=>(yU x.2).bind λF=>bif !D.2 then some (([],[],[],[]),false)else bif !decide (M.2.1=0)then some (([],[],[],[]),false)else bif !((decide (F.2.1=0)&&(decide (F.2.2.1=0)&&decide (F.2.2.2=0))))then some (([],[],[],[]),false)else(Lr D.1.1 D.1.2.1 D.1.2.2.1).bind λN=>(Ls N).bind λJ=>(L3 D.1.2.2.2.1 D.1.2.2.2.2.1 D.1.2.2.2.2.2).bind λO=>(L4 O).bind λL=>some ((J,F.1,L,M.1),decide ((J.length:Int)=(L.length:Int)))
def JC:adY:=λ(U,Y,L,M,N,D,n,Z,ah,F,_)=>bif decide (D<N)then(ag M D).bind λO=>J (F.length+([(n,O)]:br).length<=1000000000)<|J (ab .i64 (D+1))<|some (.inl (U,Y,L,M,N,(D+1),n,Z,ah,(F++([(n,O)]:br)),()))else some (.inr (U,Y,L,F,()))
def Qf:Lp UM lW:=λ(N,O,F,L,_)=>bif decide (F<O)then(ag N F).bind λD=>(ae JC (N,O,F,D.2.2,(D.2.2.length:Int),0,D.1,D.2.1,D.2.2,L,())).bind λ(Y,Z,M,U,_)=>J (ab .i64 (M+1))<|some (.inl (Y,Z,(M+1),U,()))else some (.inr (L,()))
def Dt(l:cz):Gt:=(ae Qf (l,(l.length:Int),0,[],())).bind λ(D,_)=>some D
def JT:adY:=λ(U,Y,L,M,N,D,n,Z,ah,F,_)=>bif decide (D<N)then(ag M D).bind λO=>J (F.length+([(n,O)]:br).length<=1000000000)<|J (ab .i64 (D+1))<|some (.inl (U,Y,L,M,N,(D+1),n,Z,ah,(F++([(n,O)]:br)),()))else some (.inr (U,Y,L,F,()))
def Ql:Lp UM lW:=λ(N,O,F,L,_)=>bif decide (F<O)then(ag N F).bind λD=>(ae JT (N,O,F,D.2.2,(D.2.2.length:Int),0,D.1,D.2.1,D.2.2,L,())).bind λ(Y,Z,M,U,_)=>J (ab .i64 (M+1))<|some (.inl (Y,Z,(M+1),U,()))else some (.inr (L,()))
def tH(l:cz):Gt:=(ae Ql (l,(l.length:Int),0,[],())).bind λ(D,_)=>some D
def tq:Lp (Int×Nat×Int×lW) (Int×lW):=λ(F,s2,k2,D,_)=>bif decide (k2<((D.length-s2:Nat):Int))then J (0<=k2/\k2<((D.length-s2:Nat):Int))<|(D[(s2+k2.toNat)]?).bind λL=>J (ab .i64 (k2-1))<|J (0<=(k2-1)/\(k2-1)<((D.length-s2:Nat):Int))<|(D[(s2+(k2-1).toNat)]?).bind λM=>bif !((decide (L.1=M.1)&&decide (L.2=M.2)))then J (0<=k2/\k2<((D.length-s2:Nat):Int))<|(D[(s2+k2.toNat)]?).bind λN=>J (0<=F/\F<D.length)<|(D[F.toNat]?).bind λq=>J (ab .i64 (F+1))<|J (ab .i64 (k2+1))<|some (.inl ((F+1),s2,(k2+1),(D.set F.toNat N),()))else J (ab .i64 (k2+1))<|some (.inl (F,s2,(k2+1),D,()))else some (.inr (F,D,()))
def vG:Lp (Int×lW) (lW⊕lW):=λ(k,F,_)=>bif decide (k<(F.length:Int))then J (0<=k/\k<F.length)<|(F[k.toNat]?).bind λy=>J (ab .i64 (k-1))<|J (0<=(k-1)/\(k-1)<F.length)<|(F[(k-1).toNat]?).bind λM=>bif (decide (y.1=M.1)&&decide (y.2=M.2))then J (0<=k/\k<=(F.length:Int)/\0<F.length)<|(ae tq (k,k.toNat,1,F,())).bind λ(D,L,_)=>J (0<=D/\D<=(L.length:Int)/\0<L.length)<|J True<|J (0<=D/\D<=((L.take D.toNat++av5 (L.length-D.toNat) ([],[])).length:Int)/\0<(L.take D.toNat++av5 (L.length-D.toNat) ([],[])).length)<|some (.inr (.inr (((L.take D.toNat++av5 (L.length-D.toNat) ([],[])).take D.toNat),())))else J (ab .i64 (k+1))<|some (.inl ((k+1),F,()))else some (.inr (.inl (F,())))
def CX(l:br):Gt:=bif decide ((l.length:Int)<2)then some l else(ae vG (1,l,())).bind λD=>match D with|.inl (F,_)=>some F|.inr (J,_)=>some J
def yO(c:fu):bU:=J (ab .i64 ((c.1.length:Int)+(c.2.2.length:Int)))<|some ((c.1.length:Int)+(c.2.2.length:Int))
def I4:Lp (Int×Int×cz×sO) Gx:=λ(F,k,M,N,O,U,D,L,_)=>bif decide (D<U)then J (L.length+([(5,F,k,D,0)]:eI).length<=1000000000)<|J (ab .i64 (D+1))<|some (.inl (F,k,M,N,O,U,(D+1),(L++([(5,F,k,D,0)]:eI)),()))else some (.inr (F,M,N,O,L,()))
def I3:Lp Gx nw:=λ(F,M,N,D,L,_)=>bif decide (D<N)then(ag M D).bind λan=>J (L.length+([(4,F,D,0,0)]:eI).length<=1000000000)<|(ae I4 (F,D,M,N,D,(an.2.2.length:Int),0,(L++([(4,F,D,0,0)]:eI)),())).bind λ(U,Z,ah,O,Y,_)=>J (ab .i64 (O+1))<|some (.inl (U,Z,ah,(O+1),Y,()))else some (.inr (L,()))
def yH(c:fu)(i:Int):mC:=(ag c.1 i).bind λD=>(ae I3 (i,D.1.2.2.2.2.2.2.1,(D.1.2.2.2.2.2.2.1.length:Int),0,[],())).bind λ(F,_)=>some F
def QK:Lp (aa×iG×Bp) lV:=λ(L,M,N,D,F,_)=>bif decide (D<N)then(ag M D).bind λO=>bif decide (O.1.1=L)then J (F.length+([D]:aM).length<=1000000000)<|J (ab .i64 (D+1))<|some (.inl (L,M,N,(D+1),(F++([D]:aM)),()))else J (ab .i64 (D+1))<|some (.inl (L,M,N,(D+1),F,()))else some (.inr (F,()))
def EJ(l:iG)(s:aa):uP:=(ae QK (s,l,(l.length:Int),0,[],())).bind λ(D,_)=>some D
def JP(c:Int×gL):bX:=bif decide (c.1=8)then some (decide (c.2.1.1=0)&&(decide (c.2.1.2.1=0)&&(decide (c.2.1.2.2=0)&&decide (c.2.2=[]))))else bif decide (0<=c.1)then bif decide (c.1<8)then(yz c.2).bind λD=>some D else some false else some false
def Jf:Lp (k8×Int×Int×sP×NL) (k8×NL⊕Unit):=λ(L,M,N,O,U,D,F,_)=>bif decide (D<U)then(ag O D).bind λZ=>(JP Z).bind λY=>bif !Y then some (.inr (.inr (())))else J (ab .i64 (D+1))<|some (.inl (L,M,N,O,U,(D+1),F,()))else some (.inr (.inl (L,M,N,F,())))
def P5:Lp (k8×NL) (k8×Unit⊕Unit):=λ(M,N,F,L,_)=>bif decide (F<N)then(ag M F).bind λD=>bif decide ((D.length:Int)<1)then some (.inr (.inr (())))else bif decide (4<(D.length:Int))then some (.inr (.inr (())))else(ae Jf (M,N,F,D,(D.length:Int),0,L,())).bind λo=>match o with|.inl (Y,Z,O,U,_)=>J (ab .i64 (O+1))<|some (.inl (Y,Z,(O+1),U,()))|.inr (_)=>some (.inr (.inr (())))else some (.inr (.inl (L,())))
def Ju(r:k8):bX:=bif decide ((r.length:Int)<1)then some false else bif decide (4<(r.length:Int))then some false else(ae P5 (r,(r.length:Int),0,r,())).bind λD=>match D with|.inl (F,_)=>(yL F).bind λJ=>some (decide ((J.length:Int)<=80))|.inr (_)=>some false
def JZ(c:Int×gL):Option gL:=bif decide (c.1=6)then(mK c.2 1).bind λD=>some D else bif decide (0<c.2.1.1)then(mK c.2 0).bind λTM=>some TM else bif decide (0<c.2.1.2.1)then(mK c.2 1).bind λTL=>some TL else(mK c.2 2).bind λF=>some F
def JE(c:Int×gL)(v:gL):bX:=(tC v c.2).bind λD=>bif decide (c.1=0)then some (decide (D=0))else bif decide (c.1=1)then some (!decide (D=0))else bif decide (c.1=2)then some (decide (D<0))else bif decide (c.1=3)then some (decide (D<=0))else bif decide (c.1=4)then some (decide (0<D))else bif decide (c.1=5)then some (decide (0<=D))else bif decide (c.1=8)then some true else bif decide (0<=D)then(JZ c).bind λJ=>(tC v J).bind λF=>some (decide (F<0))else some false
def Xz(a b:gL):bX:=some (decide (a.1.1=b.1.1)&&(decide (a.1.2.1=b.1.2.1)&&decide (a.1.2.2=b.1.2.2)))
def KJ:Lp (Bool×sP×Int×Bt) (Bool×Unit⊕Unit):=λ(Z,O,U,D,F,L,M,N,_)=>bif decide (D<U)then(ag O D).bind λY=>(JE Y ((F,L,M),N)).bind λah=>bif !ah then some (.inr (.inr (())))else bif Z then J (ab .i64 (D+1))<|some (.inl (true,O,U,(D+1),F,L,M,N,()))else bif !decide (Y.2.2=[])then(Xz Y.2 ((F,L,M),N)).bind λan=>J (ab .i64 (D+1))<|some (.inl (an,O,U,(D+1),F,L,M,N,()))else J (ab .i64 (D+1))<|some (.inl (false,O,U,(D+1),F,L,M,N,()))else some (.inr (.inl (Z,())))
def Lw(a:sP)(v:gL):bX:=(ae KJ (decide (v.2=[]),a,(a.length:Int),0,v.1.1,v.1.2.1,v.1.2.2,v.2,())).bind λo=>match o with|.inl (D,_)=>some D|.inr (_)=>some false
def Jt:Lp (k8×Int×Bt) oD:=λ(O,U,D,F,L,M,N,_)=>bif decide (D<U)then(ag O D).bind λZ=>(Lw Z ((F,L,M),N)).bind λY=>bif Y then some (.inr (.inr (())))else J (ab .i64 (D+1))<|some (.inl (O,U,(D+1),F,L,M,N,()))else some (.inr (.inl (())))
def JN(r:k8)(v:gL):bX:=(Ju r).bind λD=>bif !D then some false else(yz v).bind λF=>bif !F then some false else(ae Jt (r,(r.length:Int),0,v.1.1,v.1.2.1,v.1.2.2,v.2,())).bind λo=>match o with|.inl (_)=>some false|.inr (_)=>some true
def zd(i:Int)(F:pN)(J:iG):bX:=(ag J i).bind λL=>(JN F.2.1 L.1.2.1).bind λD=>some (!D)
def IC:Lp (aM×pN×iG×kW) pO:=λ(M,F,L,N,D,_)=>bif decide (D<N)then(ag M D).bind λU=>(zd U F L).bind λO=>bif O then some (.inr (.inr (D,())))else J (ab .i64 (D+1))<|some (.inl (M,F,L,N,(D+1),()))else some (.inr (.inl (())))
def PI(s:aM)(f:pN)(D:iG):bU:=(ae IC (s,f,D,(s.length:Int),0,())).bind λo=>match o with|.inl (_)=>some (-1)|.inr (F,_)=>some F
def IA:Lp (pN×iG×Bp) Bj:=λ(L,M,D,j,F,_)=>bif decide (j<(F.length:Int))then J (0<=j/\j<F.length)<|(F[j.toNat]?).bind λy=>(zd y L M).bind λN=>bif !N then J (0<=D/\D<F.length)<|(F[D.toNat]?).bind λq=>J (ab .i64 (D+1))<|J (ab .i64 (j+1))<|some (.inl (L,M,(D+1),(j+1),(F.set D.toNat y),()))else J (ab .i64 (j+1))<|some (.inl (L,M,D,(j+1),F,()))else some (.inr (D,F,()))
def IE(del:pN)(M:iG)(l:aM):uP:=(PI l del M).bind λL=>bif decide (L=(-1))then some l else J (ab .i64 (L+1))<|(ae IA (del,M,L,(L+1),l,())).bind λ(D,F,_)=>J (0<=D/\D<=(F.length:Int)/\0<F.length)<|J True<|J (0<=D/\D<=((F.take D.toNat++av5 (F.length-D.toNat) 0).length:Int)/\0<(F.take D.toNat++av5 (F.length-D.toNat) 0).length)<|some ((F.take D.toNat++av5 (F.length-D.toNat) 0).take D.toNat)
def zD(l:iG)(n:pN):uP:=(EJ l n.1).bind λof=>(IE n l of).bind λD=>some D
def Ja:Lp (fu×Int×Int×Int×aM×nw) (fu×Int×nw):=λ(O,F,N,D,L,M,_)=>bif decide (D<N)then J (0<=D/\D<L.length)<|(L[D.toNat]?).bind λy=>bif decide (F<y)then J (M.length+([(3,F,y,0,0)]:eI).length<=1000000000)<|J (ab .i64 (D+1))<|some (.inl (O,F,N,(D+1),L,(M++([(3,F,y,0,0)]:eI)),()))else J (ab .i64 (D+1))<|some (.inl (O,F,N,(D+1),L,M,()))else some (.inr (O,F,M,()))
def I':Lp (fu×Int×Int×cz×Int×Int×Int×Int×eI×lV) (fu×Gx):=λ(ah,F,N,O,U,Y,Z,D,L,M,_)=>bif decide (D<Z)then J (0<=D/\D<M.length)<|(M[D.toNat]?).bind λan=>J (L.length+([(9,F,N,an,0)]:eI).length<=1000000000)<|J (ab .i64 (D+1))<|some (.inl (ah,F,N,O,U,Y,Z,(D+1),(L++([(9,F,N,an,0)]:eI)),M,()))else some (.inr (ah,F,O,U,Y,L,()))
def I9:Lp (fu×Gx) nw:=λ(U,Z,M,N,D,L,_)=>bif decide (D<N)then(ag M D).bind λaz=>(zD U.1 az).bind λF=>(ae I' (U,Z,D,M,N,D,(F.length:Int),0,L,F,())).bind λ(aE,ah,an,ar,O,Y,_)=>J (ab .i64 (O+1))<|some (.inl (aE,ah,an,ar,(O+1),Y,()))else some (.inr (L,()))
def yK(x:fu)(D:Int):mC:=(ag x.1 D).bind λO=>(EJ x.1 O.1.1).bind λof=>(ae Ja (x,D,(of.length:Int),0,of,[],())).bind λ(L,F,M,_)=>(ag L.1 F).bind λJ=>(ae I9 (L,F,J.1.2.2.2.2.2.1,(J.1.2.2.2.2.2.1.length:Int),0,M,())).bind λ(N,_)=>some N
def IQ:Lp (fu×Int×Int×Int×br×Int×Int×cz×sO) adO:=λ(az,F,L,N,O,U,Y,Z,ah,an,ar,D,M,_)=>bif decide (D<ar)then J (M.length+([(8,F,L,N,D)]:eI).length<=1000000000)<|J (ab .i64 (D+1))<|some (.inl (az,F,L,N,O,U,Y,Z,ah,an,ar,(D+1),(M++([(8,F,L,N,D)]:eI)),()))else some (.inr (az,F,L,O,U,Y,Z,ah,an,M,()))
def IP:Lp adO (fu×Int×br×nK):=λ(an,F,M,N,O,U,Y,Z,D,L,_)=>bif decide (D<Z)then(ag Y D).bind λbp=>J (L.length+([(7,F,M,D,0)]:eI).length<=1000000000)<|(ae IQ (an,F,M,D,N,O,U,Y,Z,D,(bp.2.2.length:Int),0,(L++([(7,F,M,D,0)]:eI)),())).bind λ(bx,a6,bb,az,aE,a1,a7,a8,ah,ar,_)=>J (ab .i64 (ah+1))<|some (.inl (bx,a6,bb,az,aE,a1,a7,a8,(ah+1),ar,()))else some (.inr (an,F,N,O,U,L,()))
def P2:Lp (fu×Int×br×nK) nw:=λ(L,F,N,O,D,M,_)=>bif decide (D<O)then(ag N D).bind λZ=>(ag L.1 F).bind λa1=>bif !decide (Z.1=a1.1.1)then J (ab .i64 (D+1))<|some (.inl (L,F,N,O,(D+1),M,()))else(ag L.1 F).bind λa6=>(tA a6.1 Z.2).bind λU=>bif decide (U<0)then J (M.length+([(6,F,D,0,0)]:eI).length<=1000000000)<|J (ab .i64 (D+1))<|some (.inl (L,F,N,O,(D+1),(M++([(6,F,D,0,0)]:eI)),()))else(ag L.1 F).bind λa7=>(ag a7.1.2.2.2.2.2.2.2 U).bind λah=>(ae IP (L,F,D,N,O,D,ah.2,(ah.2.length:Int),0,M,())).bind λ(a8,aE,ar,az,Y,an,_)=>J (ab .i64 (Y+1))<|some (.inl (a8,aE,ar,az,(Y+1),an,()))else some (.inr (M,()))
def yA(x:fu)(F:Int):mC:=(ae P2 (x,F,x.2.2,(x.2.2.length:Int),0,[],())).bind λ(D,_)=>some D
def DR:Lp (Int×Gr) Bi:=λ(F,M,N,D,_)=>bif decide (D<N)then(ag M D).bind λL=>bif !decide (L=F)then some (.inr (.inr (L,())))else J (ab .i64 (D+1))<|some (.inl (F,M,N,(D+1),()))else some (.inr (.inl (F,())))
def KV(vals:aM):bU:=(ae DR (0,vals,(vals.length:Int),0,())).bind λo=>match o with|.inl (F,_)=>some F|.inr (D,_)=>some D
def qh(a b:nL):bU:=(mM a.1 b.1).bind λD=>(mM a.2.1 b.2.1).bind λF=>(mM a.2.2.1 b.2.2.1).bind λJ=>(mM a.2.2.2.1 b.2.2.2.1).bind λL=>(mM a.2.2.2.2 b.2.2.2.2).bind λM=>(KV ([D,F,J,L,M]:aM)).bind λor=>some or
def Ph:Lp sO q7:=λ(F,L,M,j,D,_)=>bif decide (F<j)then J (0<=j/\j<D.length)<|(D[j.toNat]?).bind λy=>J (ab .i64 (j-1))<|J (0<=(j-1)/\(j-1)<D.length)<|(D[(j-1).toNat]?).bind λU=>(qh y U).bind λO=>bif decide (O<0)then J (ab .i64 (j-1))<|J (ab .i64 (j-1))<|J (0<=(j-1)/\(j-1)<D.length)<|(D[(j-1).toNat]?).bind λN=>J (0<=j/\j<D.length)<|(D[j.toNat]?).bind λY=>J (0<=j/\j<D.length)<|(D[j.toNat]?).bind λq=>J (0<=(j-1)/\(j-1)<(D.set j.toNat N).length)<|((D.set j.toNat N)[(j-1).toNat]?).bind λZ=>J (ab .i64 (j-1))<|some (.inl (F,L,M,(j-1),((D.set j.toNat N).set (j-1).toNat Y),()))else some (.inr (F,L,M,D,()))else some (.inr (F,L,M,D,()))
def Pg:Lp q7 nw:=λ(M,D,i,L,_)=>bif decide (i<D)then(ae Ph (M,D,i,i,L,())).bind λ(N,O,F,U,_)=>J (ab .i64 (F+1))<|some (.inl (N,O,(F+1),U,()))else some (.inr (L,()))
def Cy(a b:Int)(l:eI):mC:=J (ab .i64 (a+1))<|(ae Pg (a,b,(a+1),l,())).bind λ(D,_)=>some D
def af0:Lp sO nw:=λ(D,F,M,i,L,_)=>bif decide (i<M)then J (ab .i64 (D+i))<|J (ab .i64 (F+i))<|J (ab .i64 (F+i))<|J (0<=(F+i)/\(F+i)<L.length)<|(L[(F+i).toNat]?).bind λy=>J (ab .i64 (D+i))<|J (0<=(D+i)/\(D+i)<L.length)<|(L[(D+i).toNat]?).bind λN=>J (0<=(D+i)/\(D+i)<L.length)<|(L[(D+i).toNat]?).bind λq=>J (0<=(F+i)/\(F+i)<(L.set (D+i).toNat y).length)<|((L.set (D+i).toNat y)[(F+i).toNat]?).bind λO=>J (ab .i64 (i+1))<|some (.inl (D,F,M,(i+1),((L.set (D+i).toNat y).set (F+i).toNat N),()))else some (.inr (L,()))
def CB(a b n:Int)(l:eI):mC:=(ae af0 (a,b,n,0,l,())).bind λ(D,_)=>some D
def Py:Lp q7 nK:=λ(F,D,j,L,_)=>bif !decide (D=j)then bif decide (j<D)then J (ab .i64 (F-D))<|(CB (F-D) F j L).bind λM=>J (ab .i64 (D-j))<|J (L.length=M.length)<|some (.inl (F,(D-j),j,M,()))else J (ab .i64 (F-D))<|J (ab .i64 (F+j))<|J (ab .i64 ((F+j)-D))<|(CB (F-D) ((F+j)-D) D L).bind λN=>J (ab .i64 (j-D))<|J (L.length=N.length)<|some (.inl (F,D,(j-D),N,()))else some (.inr (F,D,L,()))
def Is(a m b:Int)(l:eI):mC:=J (ab .i64 (m-a))<|J (ab .i64 (b-m))<|(ae Py (m,(m-a),(b-m),l,())).bind λ(F,D,L,_)=>J (ab .i64 (F-D))<|(CB (F-D) F D L).bind λM=>some M
def Pq(rc:Bo):Lp q7 nK:=λ(M,D,F,L,_)=>bif decide (D<F)then J (ab .i64 (D+F))<|J (0<=(1:Int))<|J (0<=(hf (D+F))/\(hf (D+F))<L.length)<|(L[(hf (D+F)).toNat]?).bind λy=>J (0<=M/\M<L.length)<|(L[M.toNat]?).bind λO=>(qh y O).bind λN=>bif decide (N<0)then J (ab .i64 ((hf (D+F))+1))<|some (.inl (M,((hf (D+F))+1),F,L,()))else some (.inl (M,D,(hf (D+F)),L,()))else some (.inr (M,D,L,()))
def Wp(rc:Bo):Lp nK nw:=λ(L,D,F,_)=>J (ab .i64 (L-1))<|bif decide (D<(L-1))then J (ab .i64 (D+1))<|J (ab .i64 (D+1))<|J (0<=(D+1)/\(D+1)<F.length)<|(F[(D+1).toNat]?).bind λM=>J (0<=D/\D<F.length)<|(F[D.toNat]?).bind λN=>J (0<=D/\D<F.length)<|(F[D.toNat]?).bind λq=>J (0<=(D+1)/\(D+1)<(F.set D.toNat M).length)<|((F.set D.toNat M)[(D+1).toNat]?).bind λO=>J (ab .i64 (D+1))<|some (.inl (L,(D+1),((F.set D.toNat M).set (D+1).toNat N),()))else some (.inr (F,()))
def Pp(rc:Bo):Lp q7 nK:=λ(M,D,F,L,_)=>bif decide (D<F)then J (ab .i64 (D+F))<|J (0<=(1:Int))<|J (0<=M/\M<L.length)<|(L[M.toNat]?).bind λO=>J (0<=(hf (D+F))/\(hf (D+F))<L.length)<|(L[(hf (D+F)).toNat]?).bind λU=>(qh O U).bind λN=>bif !(decide (N<0))then J (ab .i64 ((hf (D+F))+1))<|some (.inl (M,((hf (D+F))+1),F,L,()))else some (.inl (M,D,(hf (D+F)),L,()))else some (.inr (M,D,L,()))
def Wo(rc:Bo):Lp nK nw:=λ(M,D,F,_)=>bif decide (M<D)then J (ab .i64 (D-1))<|J (ab .i64 (D-1))<|J (0<=(D-1)/\(D-1)<F.length)<|(F[(D-1).toNat]?).bind λL=>J (0<=D/\D<F.length)<|(F[D.toNat]?).bind λN=>J (0<=D/\D<F.length)<|(F[D.toNat]?).bind λO=>J (0<=(D-1)/\(D-1)<(F.set D.toNat L).length)<|((F.set D.toNat L)[(D-1).toNat]?).bind λU=>J (ab .i64 (D-1))<|some (.inl (M,(D-1),((F.set D.toNat L).set (D-1).toNat N),()))else some (.inr (F,()))
def Ip(rc:Bo):Lp (Int×Int×Int×Int×sO) (Int×Int×sO):=λ(U,Y,Z,N,O,D,F,M,L,_)=>bif decide (D<F)then J (ab .i64 (D+F))<|J (0<=(1:Int))<|J (ab .i64 (M-(hf (D+F))))<|J (0<=(M-(hf (D+F)))/\(M-(hf (D+F)))<L.length)<|(L[(M-(hf (D+F))).toNat]?).bind λan=>J (0<=(hf (D+F))/\(hf (D+F))<L.length)<|(L[(hf (D+F)).toNat]?).bind λar=>(qh an ar).bind λah=>bif !(decide (ah<0))then J (ab .i64 ((hf (D+F))+1))<|some (.inl (U,Y,Z,N,O,((hf (D+F))+1),F,M,L,()))else some (.inl (U,Y,Z,N,O,D,(hf (D+F)),M,L,()))else some (.inr (U,Y,Z,N,O,D,L,()))
def Po(rc:Bo)(L F N:Int)(l:eI):mC:=J (ab .i64 (F-L))<|bif decide ((F-L)=1)then(ae (Pq rc) (L,F,N,l,())).bind λ(a,b,q,_)=>(ae (Wp rc) (b,a,q,())).bind λ(q,_)=>some q else J (ab .i64 (N-F))<|bif decide ((N-F)=1)then(ae (Pp rc) (F,L,F,l,())).bind λ(a,b,q,_)=>(ae (Wo rc) (b,a,q,())).bind λ(q,_)=>some q else J (ab .i64 (L+N))<|J (0<=(1:Int))<|let M:Int:=hf (L+N);let K:Int×Int×Int×Int×Int×Int×List (Int×Int×Int×Int×Int)×Unit->Option (List (Int×Int×Int×Int×Int)):=λ(U,Z,Y,O,z2,z3,o,_)=>J (ab .i64 (z2-z3))<|let w:Int:=z2-z3;let D0:List (Int×Int×Int×Int×Int)->Option (List (Int×Int×Int×Int×Int)):=λq=>bif decide (O<w)then(bif decide (w<Y)then(rc O w Y q).bind λs=>some s else some q)else some q;let D:List (Int×Int×Int×Int×Int)->List (Int×Int×Int×Int×Int)->Option (List (Int×Int×Int×Int×Int)):=λp q=>bif decide (O<w)then(bif decide (w<Y)then J (p.length=q.length)<|(rc O w Y q).bind λs=>some s else some q)else some q;let E0:List (Int×Int×Int×Int×Int)->Option (List (Int×Int×Int×Int×Int)):=λq=>bif decide (U<z3)then(bif decide (z3<O)then(rc U z3 O q).bind λs=>D q s else D0 q)else D0 q;let E:List (Int×Int×Int×Int×Int)->List (Int×Int×Int×Int×Int)->Option (List (Int×Int×Int×Int×Int)):=λp q=>bif decide (U<z3)then(bif decide (z3<O)then J (p.length=q.length)<|(rc U z3 O q).bind λs=>D q s else D p q)else D p q;bif decide (z3<Z)then(bif decide (Z<w)then(Is z3 Z w o).bind λr=>E o r else E0 o)else E0 o;J (ab .i64 (M+F))<|bif decide (M<F)then J (ab .i64 ((M+F)-N))<|J (ab .i64 ((M+F)-1))<|(ae (Ip rc) (L,F,N,M,(M+F),((M+F)-N),M,((M+F)-1),l,())).bind K else J (ab .i64 ((M+F)-1))<|(ae (Ip rc) (L,F,N,M,(M+F),L,F,((M+F)-1),l,())).bind K
def Io(rc:q7->mC):q7->mC:=λx=>Po (λa0 D a2 a3=>rc (a0,D,a2,a3,())) x.1 x.2.1 x.2.2.1 x.2.2.2.1
def Pu(a0 D a2:Int)(a3:eI):mC:=pG Io (a0,D,a2,a3,())
def Px:Lp sO q7:=λ(F,D,M,b,L,_)=>bif decide (b<=F)then(Cy M b L).bind λN=>J (ab .i64 (b+D))<|J (L.length=N.length)<|some (.inl (F,D,b,(b+D),N,()))else some (.inr (F,D,M,L,()))
def Pw:Lp sO q7:=λ(M,D,L,F,N,_)=>bif decide (F<=M)then J (ab .i64 (L+D))<|(Pu L (L+D) F N).bind λO=>J (ab .i64 (2*D))<|J (ab .i64 (F+(2*D)))<|J (N.length=O.length)<|some (.inl (M,D,F,(F+(2*D)),O,()))else some (.inr (M,D,L,N,()))
def Pv:Lp nK nw:=λ(O,L,U,_)=>bif decide (L<O)then J (ab .i64 (2*L))<|(ae Pw (O,L,0,(2*L),U,())).bind λ(M,D,F,N,_)=>J (ab .i64 (F+D))<|bif decide ((F+D)<M)then(Pu F (F+D) M N).bind λY=>J (ab .i64 (D*2))<|J (N.length=Y.length)<|some (.inl (M,(D*2),Y,()))else J (ab .i64 (D*2))<|some (.inl (M,(D*2),N,()))else some (.inr (U,()))
def Ir(n:Int)(l:eI):mC:=(ae Px (n,20,0,20,l,())).bind λ(F,N,M,L,_)=>(Cy M F L).bind λD=>(J (L.length=D.length)<|ae Pv (F,N,D,())).bind λ(O,_)=>some O
def yk(l:eI):mC:=(Ir (l.length:Int) l).bind λD=>some D
def Jd:Lp (fu×Int×cz×sO) (fu×cz×nK):=λ(Y,L,M,N,O,U,D,F,_)=>bif decide (D<U)then J (F.length+([(2,L,D,0,0)]:eI).length<=1000000000)<|J (ab .i64 (D+1))<|some (.inl (Y,L,M,N,O,U,(D+1),(F++([(2,L,D,0,0)]:eI)),()))else some (.inr (Y,M,N,O,F,()))
def Jc:Lp (fu×cz×nK) (fu×nw):=λ(O,L,M,D,F,_)=>bif decide (D<M)then(ag L D).bind λah=>J (F.length+([(1,D,0,0,0)]:eI).length<=1000000000)<|(ae Jd (O,D,L,M,D,(ah.2.2.length:Int),0,(F++([(1,D,0,0,0)]:eI)),())).bind λ(an,Y,Z,N,U,_)=>J (ab .i64 (N+1))<|some (.inl (an,Y,Z,(N+1),U,()))else some (.inr (O,F,()))
def Jb:Lp (fu×nK) nw:=λ(M,O,D,F,_)=>bif decide (D<O)then(yH M D).bind λL=>J (F.length+L.length<=1000000000)<|(yK M D).bind λsu=>J ((F++L).length+su.length<=1000000000)<|(yA M D).bind λN=>J (((F++L)++su).length+N.length<=1000000000)<|J (ab .i64 (D+1))<|some (.inl (M,O,(D+1),(((F++L)++su)++N),()))else some (.inr (F,()))
def vM(x:fu):mC:=(ae Jc (x,x.2.1,(x.2.1.length:Int),0,[],())).bind λ(L,M,_)=>(ae Jb (L,(L.1.length:Int),0,M,())).bind λ(D,_)=>(yk D).bind λF=>J (D.length=F.length)<|some F
def Kf:Lp (iG×Int×Int×p7×UO) (iG×UO):=λ(O,U,Y,Z,ah,D,F,M,N,_)=>bif decide (D<ah)then(ag Z D).bind λan=>(tH an.2).bind λL=>J (F.length+L.length<=1000000000)<|J (ab .i64 (D+1))<|some (.inl (O,U,Y,Z,ah,(D+1),(F++L),M,N,()))else some (.inr (O,U,Y,F,M,N,()))
def Ke:Lp (iG×UO) (br×iG×Gv):=λ(U,Y,F,D,N,O,_)=>bif decide (F<Y)then(ag U F).bind λL=>(tH L.1.2.2.2.2.2.2.1).bind λM=>J (D.length+M.length<=1000000000)<|(ae Kf (U,Y,F,L.1.2.2.2.2.2.2.2,(L.1.2.2.2.2.2.2.2.length:Int),0,(D++M),N,O,())).bind λ(az,aE,Z,ah,an,ar,_)=>J (ab .i64 (Z+1))<|some (.inl (az,aE,(Z+1),ah,an,ar,()))else some (.inr (D,N,O,()))
def KU(x:iG)(O:cz):Option (fu×gw⊕gw):=(Dt O).bind λU=>(ae Ke (x,(x.length:Int),0,U,x,O,())).bind λ(M,F,L,_)=>(wh M).bind λN=>J (M.length=N.length)<|(CX N).bind λD=>(yO (F,L,D)).bind λZ=>bif decide (400<Z)then some (.inr (2,()))else(vM (F,L,D)).bind λY=>bif decide (8000<(Y.length:Int))then some (.inr (2,()))else some (.inl ((F,L,D),0,()))
def CU:Lp (eI×Int×NF) pO:=λ(L,Z,F,M,N,O,U,Y,_)=>bif decide (F<Z)then(ag L F).bind λD=>bif (decide (M=D.1)&&(decide (N=D.2.1)&&(decide (O=D.2.2.1)&&(decide (U=D.2.2.2.1)&&decide (Y=D.2.2.2.2)))))then some (.inr (.inr (F,())))else J (ab .i64 (F+1))<|some (.inl (L,Z,(F+1),M,N,O,U,Y,()))else some (.inr (.inl (())))
def P'(s:eI)(v:nL):bU:=(ae CU (s,(s.length:Int),0,v.1,v.2.1,v.2.2.1,v.2.2.2.1,v.2.2.2.2,())).bind λo=>match o with|.inl (_)=>some (-1)|.inr (D,_)=>some D
def nN(s:eI)(v:nL):bX:=(P' s v).bind λD=>some (decide (0<=D))
def l9(x:fu)(D:nL):bX:=bif decide (D.1<1)then some false else bif decide (9<D.1)then some false else bif decide (D.1=1)then(vM x).bind λY=>(nN Y D).bind λF=>some F else bif decide (D.1=2)then(vM x).bind λZ=>(nN Z D).bind λJ=>some J else bif decide (D.2.1<0)then some false else bif decide ((x.1.length:Int)<=D.2.1)then some false else bif decide (D.1=4)then(yH x D.2.1).bind λar=>(nN ar D).bind λL=>some L else bif decide (D.1=5)then(yH x D.2.1).bind λaz=>(nN az D).bind λM=>some M else bif decide (D.1=3)then(yK x D.2.1).bind λsu=>(nN su D).bind λN=>some N else bif decide (D.1=9)then(yK x D.2.1).bind λan=>(nN an D).bind λO=>some O else(yA x D.2.1).bind λah=>(nN ah D).bind λU=>some U
def I2:Lp Bp lV:=λ(L,D,F,_)=>bif decide (D<L)then J (0<=D/\D<F.length)<|(F[D.toNat]?).bind λy=>J (ab .i64 (y+1))<|J (0<=D/\D<F.length)<|(F[D.toNat]?).bind λq=>J (ab .i64 (D+1))<|some (.inl (L,(D+1),(F.set D.toNat (y+1)),()))else some (.inr (F,()))
def C7(c:fu)(n:pN):uP:=(zD c.1 n).bind λD=>(ae I2 ((D.length:Int),0,D,())).bind λ(F,_)=>some F
def DQ(a b:q8):bU:=(rG a.1 b.1).bind λD=>bif !decide (D=0)then some D else(rG a.2 b.2).bind λF=>some F
def CD:Lp (br×Int×Int×NS) (br×Int×NS):=λ(M,N,D,j,F,L,_)=>bif decide (D<j)then J (ab .i64 (D+j))<|J (0<=(1:Int))<|(ag M (hf (D+j))).bind λU=>(DQ U (F,L)).bind λO=>bif decide (O<0)then J (ab .i64 ((hf (D+j))+1))<|some (.inl (M,N,((hf (D+j))+1),j,F,L,()))else some (.inl (M,N,D,(hf (D+j)),F,L,()))else some (.inr (M,N,D,F,L,()))
def Iq(x:br)(target:q8):sQ:=(ae CD (x,(x.length:Int),0,(x.length:Int),target.1,target.2,())).bind λ(O,F,D,L,M,_)=>bif decide (D<F)then(ag O D).bind λN=>(DQ N (L,M)).bind λJ=>some (D,decide (J=0))else some (D,false)
def tD(c:fu)(x:q8):bU:=(Iq c.2.2 x).bind λD=>bif !D.2 then some 0 else J (ab .i64 ((c.1.length:Int)+D.1))<|J (ab .i64 (((c.1.length:Int)+D.1)+1))<|some (((c.1.length:Int)+D.1)+1)
def yN(c:fu)(n:pN)(k:Int):bU:=(ag n.2.2 k).bind λF=>(tD c (n.1,F)).bind λD=>some D
def CZ(c:fu)(f:nL):Option (aa×cz):=(ag c.1 f.2.1).bind λD=>(ag c.2.2 f.2.2.1).bind λJ=>(tA D.1 J.2).bind λF=>(ag D.1.2.2.2.2.2.2.2 F).bind λL=>some L
def Jm:Lp Bp lV:=λ(L,D,F,_)=>bif decide (D<L)then J (0<=D/\D<F.length)<|(F[D.toNat]?).bind λy=>J (ab .i64 (y+1))<|J (0<=D/\D<F.length)<|(F[D.toNat]?).bind λq=>J (ab .i64 (D+1))<|some (.inl (L,(D+1),(F.set D.toNat (y+1)),()))else some (.inr (F,()))
def JD(c:fu)(n:pN):uP:=(zD c.1 n).bind λD=>(ae Jm ((D.length:Int),0,D,())).bind λ(F,_)=>some F
def fP(x:fu)(D:nL):adU:=(l9 x D).bind λa8=>bif !a8 then some ([],false)else J (ab .i64 (D.2.1+1))<|J (ab .i64 (0-(D.2.1+1)))<|bif decide (D.1=1)then(ag x.2.1 D.2.1).bind λbx=>(C7 x bx).bind λa7=>(mP a7).bind λZ=>some (Z.1,true)else bif decide (D.1=2)then(ag x.2.1 D.2.1).bind λb0=>(yN x b0 D.2.2.1).bind λN=>some (([N]:aM),true)else bif decide (D.1=3)then J (ab .i64 (D.2.2.1+1))<|J (ab .i64 (0-(D.2.2.1+1)))<|(mP ([(0-(D.2.1+1)),(0-(D.2.2.1+1))]:aM)).bind λah=>some (ah.1,true)else bif decide (D.1=4)then(ag x.1 D.2.1).bind λb1=>(ag b1.1.2.2.2.2.2.2.1 D.2.2.1).bind λb2=>(C7 x b2).bind λL=>J (L.length+([(0-(D.2.1+1))]:aM).length<=1000000000)<|(mP (L++([(0-(D.2.1+1))]:aM))).bind λan=>some (an.1,true)else bif decide (D.1=5)then(ag x.1 D.2.1).bind λb3=>(ag b3.1.2.2.2.2.2.2.1 D.2.2.1).bind λb4=>(yN x b4 D.2.2.2.1).bind λO=>(mP ([(0-(D.2.1+1)),O]:aM)).bind λar=>some (ar.1,true)else bif decide (D.1=9)then J (ab .i64 (D.2.2.2.1+1))<|J (ab .i64 (0-(D.2.2.2.1+1)))<|(mP ([(0-(D.2.1+1)),(0-(D.2.2.2.1+1))]:aM)).bind λaz=>some (az.1,true)else J (ab .i64 ((x.1.length:Int)+D.2.2.1))<|J (ab .i64 (((x.1.length:Int)+D.2.2.1)+1))<|J (ab .i64 (0-(((x.1.length:Int)+D.2.2.1)+1)))<|bif decide (D.1=7)then(CZ x D).bind λU=>(ag U.2 D.2.2.2.1).bind λbb=>(JD x bb).bind λM=>J (([(0-(D.2.1+1)),(0-(((x.1.length:Int)+D.2.2.1)+1))]:aM).length+M.length<=1000000000)<|(mP (([(0-(D.2.1+1)),(0-(((x.1.length:Int)+D.2.2.1)+1))]:aM)++M)).bind λaE=>some (aE.1,true)else bif decide (D.1=8)then(CZ x D).bind λY=>(ag Y.2 D.2.2.2.1).bind λbp=>(yN x bp D.2.2.2.2).bind λF=>J (([(0-(D.2.1+1)),(0-(((x.1.length:Int)+D.2.2.1)+1))]:aM).length+([F]:aM).length<=1000000000)<|(mP (([(0-(D.2.1+1)),(0-(((x.1.length:Int)+D.2.2.1)+1))]:aM)++([F]:aM))).bind λa1=>some (a1.1,true)else(mP ([(0-(D.2.1+1)),(0-(((x.1.length:Int)+D.2.2.1)+1))]:aM)).bind λa6=>some (a6.1,true)
def zG:Lp (br×NS) (br×NS⊕lW):=λ(F,D,L,M,_)=>bif decide (D<(F.length:Int))then(ag F D).bind λU=>(qo U.1 L).bind λN=>bif decide (N=0)then(ag F D).bind λY=>(qo Y.2 M).bind λO=>bif decide (O=0)then some (.inr (.inr (F,())))else bif decide (0<O)then some (.inr (.inl (F,D,L,M,())))else J (ab .i64 (D+1))<|some (.inl (F,(D+1),L,M,()))else bif decide (N=0)then some (.inr (.inr (F,())))else bif decide (0<N)then some (.inr (.inl (F,D,L,M,())))else J (ab .i64 (D+1))<|some (.inl (F,(D+1),L,M,()))else some (.inr (.inl (F,D,L,M,())))
def L1(l:br)(t:q8):Gt:=(ae zG (l,0,t.1,t.2,())).bind λo=>match o with|.inl (D,F,L,M,_)=>J (0<=(0:Int)/\(0:Int)<=F/\F<=D.length)<|J (((D.take F.toNat).drop (0:Int).toNat).length<=1000000000)<|J (((D.take F.toNat).drop (0:Int).toNat).length+([(L,M)]:br).length<=1000000000)<|J (0<=F/\F<=(D.length:Int)/\(D.length:Int)<=D.length)<|J ((((D.take F.toNat).drop (0:Int).toNat)++([(L,M)]:br)).length+((D.take (D.length:Int).toNat).drop F.toNat).length<=1000000000)<|some ((((D.take F.toNat).drop (0:Int).toNat)++([(L,M)]:br))++((D.take (D.length:Int).toNat).drop F.toNat))|.inr (N,_)=>some N
def Kn:Lp (br×aT×kW) (br×aT×gw):=λ(L,F,D,k,_)=>(ag F D).bind λN=>bif decide (k<(N.2.2.length:Int))then(ag F D).bind λO=>(ag F D).bind λU=>(ag U.2.2 k).bind λY=>(L1 L (O.1,Y)).bind λM=>J (ab .i64 (k+1))<|some (.inl (M,F,D,(k+1),()))else some (.inr (L,F,D,()))
def Km:Lp (br×aT×gw) lW:=λ(F,L,i,_)=>bif decide (i<(L.length:Int))then(ae Kn (F,L,i,0,())).bind λ(M,N,D,_)=>J (ab .i64 (D+1))<|some (.inl (M,N,(D+1),()))else some (.inr (F,()))
def zH(l:br)(eF:aT):Gt:=(ae Km (l,eF,0,())).bind λ(D,_)=>some D
def ES:Lp (dr×Int×Int×dr×NT) (dr×Int×dr×NT):=λ(D,F,k,N,L,M,_)=>(ag D F).bind λU=>bif decide (k<(U.1.2.2.2.2.2.2.2.length:Int))then(ag D F).bind λY=>(ag Y.1.2.2.2.2.2.2.2 k).bind λZ=>(zH M Z.2).bind λO=>J (ab .i64 (k+1))<|some (.inl (D,F,(k+1),N,L,O,()))else some (.inr (D,F,N,L,M,()))
def K4:Lp (dr×Int×dr×NT) (dr×NT):=λ(D,i,F,L,M,_)=>bif decide (i<(D.length:Int))then(ag D i).bind λan=>(zH M an.1.2.2.2.2.2.2.1).bind λU=>(ae ES (D,i,0,F,L,U,())).bind λ(O,N,Y,Z,ah,_)=>J (ab .i64 (N+1))<|some (.inl (O,(N+1),Y,Z,ah,()))else some (.inr (F,L,M,()))
def L2(D:dr)(roots:aT):Option uL:=(zH [] roots).bind λF=>(ae K4 (D,0,D,roots,F,())).bind λ(J,L,M,_)=>some (J,L,M)
def L7(op:Int)(v:pP):Option pP:=let D:Option pP:=bif decide (op=6)then J (ab .i64 (v.2.1+1))<|some (v.1,(v.2.1+1),0,[])else bif decide (0<v.2.1)then J (ab .i64 (v.2.1+1))<|some (v.1,(v.2.1+1),0,[])else J (ab .i64 (v.2.2.1+1))<|some (v.1,v.2.1,(v.2.2.1+1),[]);bif decide (op=7)then bif decide (0<v.1)then J (ab .i64 (v.1+1))<|some ((v.1+1),0,0,[])else D else D
def Lb(c:Int×pP)(v:pP):bX:=(tI v c.2).bind λD=>bif decide (c.1=0)then some (decide (D=0))else bif decide (c.1=1)then some (!decide (D=0))else bif decide (c.1=2)then some (decide (D<0))else bif decide (c.1=3)then some (decide (D<=0))else bif decide (c.1=4)then some (decide (0<D))else bif decide (c.1=5)then some (decide (0<=D))else bif decide (c.1=8)then some true else bif decide (0<=D)then(L7 c.1 c.2).bind λJ=>(tI v J).bind λF=>some (decide (F<0))else some false
def E4:Lp (k7×Int×Bool×Bool×Int×oN) (k7×Int×Bool×Bool×oN):=λ(Y,U,az,ar,D,M,N,L,Z,_)=>let ah:Option (k7×Int×Bool×Bool×Int×oN⊕k7×Int×Bool×Bool×oN):=J (ab .i64 (D+1))<|some (.inl (Y,U,false,ar,(D+1),M,N,L,Z,()));let an:Bool->Option (k7×Int×Bool×Bool×Int×oN⊕k7×Int×Bool×Bool×oN):=λO=>J (ab .i64 (D+1))<|some (.inl (Y,U,O,ar,(D+1),M,N,L,Z,()));(ag Y U).bind λaE=>bif decide (D<(aE.length:Int))then(ag Y U).bind λa1=>(ag a1 D).bind λF=>bif az then(Lb F (M,N,L,Z)).bind λO=>bif decide (0<(F.2.2.2.2.length:Int))then bif decide (F.2.1=M)then bif decide (F.2.2.1=N)then bif decide (F.2.2.2.1=L)then J (ab .i64 (D+1))<|some (.inl (Y,U,O,true,(D+1),M,N,L,Z,()))else an O else an O else an O else an O else bif decide (0<(F.2.2.2.2.length:Int))then bif decide (F.2.1=M)then bif decide (F.2.2.1=N)then bif decide (F.2.2.2.1=L)then J (ab .i64 (D+1))<|some (.inl (Y,U,false,true,(D+1),M,N,L,Z,()))else ah else ah else ah else ah else some (.inr (Y,U,az,ar,M,N,L,Z,()))
def Lc:Lp (k7×Int×oN) oD:=λ(Y,U,x3,ah,an,O,_)=>bif decide (U<(Y.length:Int))then(ae E4 (Y,U,true,decide ((O.length:Int)=0),0,x3,ah,an,O,())).bind λ(Z,D,ar,az,F,L,M,N,_)=>bif ar then bif az then some (.inr (.inr (())))else J (ab .i64 (D+1))<|some (.inl (Z,(D+1),F,L,M,N,()))else J (ab .i64 (D+1))<|some (.inl (Z,(D+1),F,L,M,N,()))else some (.inr (.inl (())))
def L6(x:k7)(D:pP):bX:=(ae Lc (x,0,D.1,D.2.1,D.2.2.1,D.2.2.2,())).bind λo=>match o with|.inl (_)=>some false|.inr (_)=>some true
def Sb:Lp (dr×k7×Bool×Int×aa×aa×ak×lV) lV:=λ(D,r,ok,i,L,M,N,F,_)=>bif decide (i<(D.length:Int))then(ag D i).bind λY=>(rP Y.1.2.1).bind λO=>(ag D i).bind λZ=>bif decide (Z.1.1=L)then bif ok then bif O.2 then(L6 r O.1).bind λU=>bif U then J (F.length+([i]:aM).length<=1000000000)<|J (ab .i64 (i+1))<|some (.inl (D,r,ok,(i+1),L,M,N,(F++([i]:aM)),()))else J (ab .i64 (i+1))<|some (.inl (D,r,ok,(i+1),L,M,N,F,()))else J (ab .i64 (i+1))<|some (.inl (D,r,ok,(i+1),L,M,N,F,()))else J (ab .i64 (i+1))<|some (.inl (D,r,ok,(i+1),L,M,N,F,()))else J (ab .i64 (i+1))<|some (.inl (D,r,ok,(i+1),L,M,N,F,()))else some (.inr (F,()))
def FM(l:dr)(n:xu):uP:=(E2 n.2.1).bind λD=>(ae Sb (l,D.1,D.2,0,n.1,n.2.1,n.2.2,[],())).bind λ(F,_)=>some F
def JF:Lp (aM×Bj) lV:=λ(l,i,D,_)=>bif decide (i<(l.length:Int))then(ag l i).bind λF=>J (ab .i64 (F+1))<|J (D.length+([(F+1)]:aM).length<=1000000000)<|J (ab .i64 (i+1))<|some (.inl (l,(i+1),(D++([(F+1)]:aM)),()))else some (.inr (D,()))
def rH(c:uL)(n:xu):uP:=(FM c.1 n).bind λD=>(ae JF (D,0,[],())).bind λ(F,_)=>some F
def ET:Lp Gr oD:=λ(D,F,i,_)=>bif decide (i<(D.length:Int))then(ag D i).bind λL=>bif decide (L=F)then some (.inr (.inr (())))else J (ab .i64 (i+1))<|some (.inl (D,F,(i+1),()))else some (.inr (.inl (())))
def tY(c:aM)(x:Int):bX:=(ae ET (c,x,0,())).bind λo=>match o with|.inl (_)=>some false|.inr (_)=>some true
def wL(x:Int):bU:=bif decide (x<0)then J (ab .i64 (0-x))<|some (0-x)else some x
def Eo(a b:Int):bX:=(wL a).bind λD=>(wL b).bind λF=>bif decide (D<F)then some true else(wL a).bind λJ=>(wL b).bind λL=>bif decide (J=L)then some (decide (a<b))else some false
def zr:Lp (aM×Bp) (aM×Bp):=λ(M,F,D,L,_)=>bif decide (0<D)then J (0<=F/\F<L.length)<|(L[F.toNat]?).bind λU=>J (ab .i64 (D-1))<|(ag M (D-1)).bind λO=>(Eo U O).bind λN=>bif N then J (ab .i64 (D-1))<|some (.inl (M,F,(D-1),L,()))else some (.inr (M,F,D,L,()))else some (.inr (M,F,D,L,()))
def zq:Lp (aM×Bj) (aM×lV):=λ(N,i,L,_)=>bif decide (i<(L.length:Int))then J (0<=i/\i<L.length)<|(L[i.toNat]?).bind λy=>(tY N y).bind λY=>bif Y then J (ab .i64 (i+1))<|some (.inl (N,(i+1),L,()))else(ae zr (N,i,(N.length:Int),L,())).bind λ(D,M,F,O,_)=>J (0<=(0:Int)/\(0:Int)<=F/\F<=D.length)<|J (((D.take F.toNat).drop (0:Int).toNat).length<=1000000000)<|J (0<=M/\M<O.length)<|(O[M.toNat]?).bind λU=>J (((D.take F.toNat).drop (0:Int).toNat).length+([U]:aM).length<=1000000000)<|J (0<=F/\F<=(D.length:Int)/\(D.length:Int)<=D.length)<|J ((((D.take F.toNat).drop (0:Int).toNat)++([U]:aM)).length+((D.take (D.length:Int).toNat).drop F.toNat).length<=1000000000)<|J (ab .i64 (M+1))<|some (.inl (((((D.take F.toNat).drop (0:Int).toNat)++([U]:aM))++((D.take (D.length:Int).toNat).drop F.toNat)),(M+1),O,()))else some (.inr (N,L,()))
def kE(l:aM):Option (aM×aM):=(ae zq ([],0,l,())).bind λ(F,D,_)=>some (F,D)
def Dq:Lp (Int×dr×aT×br×aa×p6) pO:=λ(i,D,O,F,L,M,_)=>bif decide (i<(F.length:Int))then(ag F i).bind λN=>bif (decide (N.1=L)&&decide (N.2=M))then J (ab .i64 ((D.length:Int)+i))<|J (ab .i64 (((D.length:Int)+i)+1))<|some (.inr (.inr ((((D.length:Int)+i)+1),())))else J (ab .i64 (i+1))<|some (.inl ((i+1),D,O,F,L,M,()))else some (.inr (.inl (())))
def oW(c:uL)(t:q8):bU:=(ae Dq (0,c.1,c.2.1,c.2.2,t.1,t.2,())).bind λo=>match o with|.inl (_)=>some 0|.inr (D,_)=>some D
def yw:adW:=λ(M,F,L,D,an,ar,az,aE,a1,a6,a7,a8,N,O,Y,Z,ah,U,_)=>(ag M L).bind λb6=>bif decide (D<(b6.2.2.length:Int))then bif decide (aE=4)then J (F.length<=1000000000)<|(ag M L).bind λb7=>(ag M L).bind λcc=>(ag cc.2.2 D).bind λb3=>(oW (an,ar,az) (b7.1,b3)).bind λb0=>J (F.length+([b0]:aM).length<=1000000000)<|(kE (F++([b0]:aM))).bind λbx=>J (U.length+([((N,O,Y,D,ah),bx.1)]:cF).length<=1000000000)<|J (ab .i64 (D+1))<|some (.inl (M,F,L,(D+1),an,ar,az,aE,a1,a6,a7,a8,N,O,Y,Z,ah,(U++([((N,O,Y,D,ah),bx.1)]:cF)),()))else bif decide (aE=7)then J (F.length<=1000000000)<|(ag M L).bind λb8=>(ag M L).bind λcd=>(ag cd.2.2 D).bind λb4=>(oW (an,ar,az) (b8.1,b4)).bind λb1=>J (F.length+([b1]:aM).length<=1000000000)<|(kE (F++([b1]:aM))).bind λbb=>J (U.length+([((N,O,Y,Z,D),bb.1)]:cF).length<=1000000000)<|J (ab .i64 (D+1))<|some (.inl (M,F,L,(D+1),an,ar,az,aE,a1,a6,a7,a8,N,O,Y,Z,ah,(U++([((N,O,Y,Z,D),bb.1)]:cF)),()))else J (F.length<=1000000000)<|(ag M L).bind λca=>(ag M L).bind λcg=>(ag cg.2.2 D).bind λb5=>(oW (an,ar,az) (ca.1,b5)).bind λb2=>J (F.length+([b2]:aM).length<=1000000000)<|(kE (F++([b2]:aM))).bind λbp=>J (U.length+([((N,O,D,Z,ah),bp.1)]:cF).length<=1000000000)<|J (ab .i64 (D+1))<|some (.inl (M,F,L,(D+1),an,ar,az,aE,a1,a6,a7,a8,N,O,Y,Z,ah,(U++([((N,O,D,Z,ah),bp.1)]:cF)),()))else some (.inr (M,F,L,an,ar,az,aE,a1,a6,a7,a8,U,()))
def yv:Lp Wj nv:=λ(Z,L,D,x5,ah,an,F,N,O,U,M,Y,_)=>bif decide (D<(Z.length:Int))then J (ab .i64 (F+1))<|bif decide (F=4)then J (L.length<=1000000000)<|(ag Z D).bind λb5=>(rH (x5,ah,an) b5).bind λa1=>J (L.length+a1.length<=1000000000)<|(kE (L++a1)).bind λar=>J (Y.length+([((F,N,D,U,M),ar.1)]:cF).length<=1000000000)<|(ae yw (Z,L,D,0,x5,ah,an,F,N,O,U,M,(F+1),N,D,U,M,(Y++([((F,N,D,U,M),ar.1)]:cF)),())).bind λ(b0,b3,a8,cc)=>J (ab .i64 (a8+1))<|some (.inl (b0,b3,(a8+1),cc))else bif decide (F=7)then J (L.length<=1000000000)<|(ag Z D).bind λb6=>(rH (x5,ah,an) b6).bind λa6=>J (L.length+a6.length<=1000000000)<|(kE (L++a6)).bind λaz=>J (Y.length+([((F,N,O,D,M),az.1)]:cF).length<=1000000000)<|(ae yw (Z,L,D,0,x5,ah,an,F,N,O,U,M,(F+1),N,O,D,M,(Y++([((F,N,O,D,M),az.1)]:cF)),())).bind λ(b1,b4,bb,b8)=>J (ab .i64 (bb+1))<|some (.inl (b1,b4,(bb+1),b8))else J (L.length<=1000000000)<|(ag Z D).bind λb7=>(rH (x5,ah,an) b7).bind λa7=>J (L.length+a7.length<=1000000000)<|(kE (L++a7)).bind λaE=>J (Y.length+([((F,D,O,U,M),aE.1)]:cF).length<=1000000000)<|(ae yw (Z,L,D,0,x5,ah,an,F,N,O,U,M,(F+1),D,O,U,M,(Y++([((F,D,O,U,M),aE.1)]:cF)),())).bind λ(bx,b2,bp,ca)=>J (ab .i64 (bp+1))<|some (.inl (bx,b2,(bp+1),ca))else some (.inr (Y,()))
def CO(x:uL)(J:aT)(D:nL)(L:aM):ra:=(ae yv (J,L,0,x.1,x.2.1,x.2.2,D.1,D.2.1,D.2.2.1,D.2.2.2.1,D.2.2.2.2,[],())).bind λ(F,_)=>some F
def tG:Lp (aM×Gr) (aM×Gr):=λ(F,M,L,D,_)=>bif decide (0<D)then(ag F L).bind λO=>J (ab .i64 (D-1))<|(ag M (D-1)).bind λU=>(Eo O U).bind λN=>bif N then J (ab .i64 (D-1))<|some (.inl (F,M,L,(D-1),()))else some (.inr (F,M,L,D,()))else some (.inr (F,M,L,D,()))
def y5:Lp (aM×NR) lV:=λ(M,L,i,_)=>bif decide (i<(M.length:Int))then(ag M i).bind λZ=>(tY L Z).bind λY=>bif Y then J (ab .i64 (i+1))<|some (.inl (M,L,(i+1),()))else(ae tG (M,L,i,(L.length:Int),())).bind λ(U,D,N,F,_)=>J (0<=(0:Int)/\(0:Int)<=F/\F<=D.length)<|J (((D.take F.toNat).drop (0:Int).toNat).length<=1000000000)<|(ag U N).bind λO=>J (((D.take F.toNat).drop (0:Int).toNat).length+([O]:aM).length<=1000000000)<|J (0<=F/\F<=(D.length:Int)/\(D.length:Int)<=D.length)<|J ((((D.take F.toNat).drop (0:Int).toNat)++([O]:aM)).length+((D.take (D.length:Int).toNat).drop F.toNat).length<=1000000000)<|J (ab .i64 (N+1))<|some (.inl (U,((((D.take F.toNat).drop (0:Int).toNat)++([O]:aM))++((D.take (D.length:Int).toNat).drop F.toNat)),(N+1),()))else some (.inr (L,()))
def En(c:aM):uP:=(ae y5 (c,[],0,())).bind λ(D,_)=>some D
def yF:adW:=λ(M,F,L,D,an,ar,az,aE,a1,a6,a7,a8,N,O,Y,Z,ah,U,_)=>(ag M L).bind λb6=>bif decide (D<(b6.2.2.length:Int))then bif decide (aE=4)then J (F.length<=1000000000)<|(ag M L).bind λb7=>(ag M L).bind λcc=>(ag cc.2.2 D).bind λb3=>(oW (an,ar,az) (b7.1,b3)).bind λb0=>J (F.length+([b0]:aM).length<=1000000000)<|(kE (F++([b0]:aM))).bind λbx=>J (U.length+([((N,O,Y,D,ah),bx.1)]:cF).length<=1000000000)<|J (ab .i64 (D+1))<|some (.inl (M,F,L,(D+1),an,ar,az,aE,a1,a6,a7,a8,N,O,Y,Z,ah,(U++([((N,O,Y,D,ah),bx.1)]:cF)),()))else bif decide (aE=7)then J (F.length<=1000000000)<|(ag M L).bind λb8=>(ag M L).bind λcd=>(ag cd.2.2 D).bind λb4=>(oW (an,ar,az) (b8.1,b4)).bind λb1=>J (F.length+([b1]:aM).length<=1000000000)<|(kE (F++([b1]:aM))).bind λbb=>J (U.length+([((N,O,Y,Z,D),bb.1)]:cF).length<=1000000000)<|J (ab .i64 (D+1))<|some (.inl (M,F,L,(D+1),an,ar,az,aE,a1,a6,a7,a8,N,O,Y,Z,ah,(U++([((N,O,Y,Z,D),bb.1)]:cF)),()))else J (F.length<=1000000000)<|(ag M L).bind λca=>(ag M L).bind λcg=>(ag cg.2.2 D).bind λb5=>(oW (an,ar,az) (ca.1,b5)).bind λb2=>J (F.length+([b2]:aM).length<=1000000000)<|(kE (F++([b2]:aM))).bind λbp=>J (U.length+([((N,O,D,Z,ah),bp.1)]:cF).length<=1000000000)<|J (ab .i64 (D+1))<|some (.inl (M,F,L,(D+1),an,ar,az,aE,a1,a6,a7,a8,N,O,Y,Z,ah,(U++([((N,O,D,Z,ah),bp.1)]:cF)),()))else some (.inr (M,F,L,an,ar,az,aE,a1,a6,a7,a8,U,()))
def yE:Lp Wj nv:=λ(Z,L,D,x5,ah,an,F,N,O,U,M,Y,_)=>bif decide (D<(Z.length:Int))then J (ab .i64 (F+1))<|bif decide (F=4)then J (L.length<=1000000000)<|(ag Z D).bind λb5=>(rH (x5,ah,an) b5).bind λa1=>J (L.length+a1.length<=1000000000)<|(kE (L++a1)).bind λar=>J (Y.length+([((F,N,D,U,M),ar.1)]:cF).length<=1000000000)<|(ae yF (Z,L,D,0,x5,ah,an,F,N,O,U,M,(F+1),N,D,U,M,(Y++([((F,N,D,U,M),ar.1)]:cF)),())).bind λ(b0,b3,a8,cc)=>J (ab .i64 (a8+1))<|some (.inl (b0,b3,(a8+1),cc))else bif decide (F=7)then J (L.length<=1000000000)<|(ag Z D).bind λb6=>(rH (x5,ah,an) b6).bind λa6=>J (L.length+a6.length<=1000000000)<|(kE (L++a6)).bind λaz=>J (Y.length+([((F,N,O,D,M),az.1)]:cF).length<=1000000000)<|(ae yF (Z,L,D,0,x5,ah,an,F,N,O,U,M,(F+1),N,O,D,M,(Y++([((F,N,O,D,M),az.1)]:cF)),())).bind λ(b1,b4,bb,b8)=>J (ab .i64 (bb+1))<|some (.inl (b1,b4,(bb+1),b8))else J (L.length<=1000000000)<|(ag Z D).bind λb7=>(rH (x5,ah,an) b7).bind λa7=>J (L.length+a7.length<=1000000000)<|(kE (L++a7)).bind λaE=>J (Y.length+([((F,D,O,U,M),aE.1)]:cF).length<=1000000000)<|(ae yF (Z,L,D,0,x5,ah,an,F,N,O,U,M,(F+1),D,O,U,M,(Y++([((F,D,O,U,M),aE.1)]:cF)),())).bind λ(bx,b2,bp,ca)=>J (ab .i64 (bp+1))<|some (.inl (bx,b2,(bp+1),ca))else some (.inr (Y,()))
def Dc(x:uL)(J:aT)(D:nL)(L:aM)(l:cF):ra:=(ae yE (J,L,0,x.1,x.2.1,x.2.2,D.1,D.2.1,D.2.2.1,D.2.2.2.1,D.2.2.2.2,l,())).bind λ(F,_)=>some F
def El:Lp (aa×Int×aa×aa×aa×aa×Bool×aT×aT×oP×Unit) pO:=λ(F,i,L,M,N,O,U,Y,Z,D,_)=>bif decide (i<(D.length:Int))then(ag D i).bind λah=>bif decide (ah.1=F)then some (.inr (.inr (i,())))else J (ab .i64 (i+1))<|some (.inl (F,(i+1),L,M,N,O,U,Y,Z,D,()))else some (.inr (.inl (())))
def LB(e:ye)(s:aa):bU:=(ae El (s,0,e.1,e.2.1,e.2.2.1,e.2.2.2.1,e.2.2.2.2.1,e.2.2.2.2.2.1,e.2.2.2.2.2.2.1,e.2.2.2.2.2.2.2,())).bind λo=>match o with|.inl (_)=>some (-1)|.inr (D,_)=>some D
def Di:Lp (Int×yf) yf:=λ(F,D,L,O,U,N,aE,Y,Z,ah,an,ar,az,M,_)=>bif decide (D<(L.length:Int))then(ag L D).bind λa6=>bif decide (a6.1.1=N)then J (ab .i64 (F+1))<|J (ab .i64 (0-(F+1)))<|J (ab .i64 (D+1))<|J (ab .i64 (0-(D+1)))<|(En ([(0-(F+1)),(0-(D+1))]:aM)).bind λa1=>J (M.length+([((3,F,D,0,0),a1)]:cF).length<=1000000000)<|J (ab .i64 (D+1))<|some (.inl (F,(D+1),L,O,U,N,aE,Y,Z,ah,an,ar,az,(M++([((3,F,D,0,0),a1)]:cF)),()))else J (ab .i64 (D+1))<|some (.inl (F,(D+1),L,O,U,N,aE,Y,Z,ah,an,ar,az,M,()))else some (.inr (F,L,O,U,N,aE,Y,Z,ah,an,ar,az,M,()))
def yP:Lp (Int×yf) yf:=λ(F,D,L,Y,M,N,Z,ah,an,ar,az,aE,O,U,_)=>bif decide (D<(M.length:Int))then(ag M D).bind λa8=>bif !decide (a8.1=N)then J (ab .i64 (D+1))<|some (.inl (F,(D+1),L,Y,M,N,Z,ah,an,ar,az,aE,O,U,()))else J (ab .i64 (F+1))<|J (ab .i64 (0-(F+1)))<|J (ab .i64 ((L.length:Int)+D))<|J (ab .i64 (((L.length:Int)+D)+1))<|J (ab .i64 (0-(((L.length:Int)+D)+1)))<|(ag M D).bind λbb=>(LB (N,Z,ah,an,ar,az,aE,O) bb.2).bind λa1=>bif decide (a1<0)then J (U.length+([((6,F,D,0,0),([(0-(F+1)),(0-(((L.length:Int)+D)+1))]:aM))]:cF).length<=1000000000)<|J (ab .i64 (D+1))<|some (.inl (F,(D+1),L,Y,M,N,Z,ah,an,ar,az,aE,O,(U++([((6,F,D,0,0),([(0-(F+1)),(0-(((L.length:Int)+D)+1))]:aM))]:cF)),()))else(ag O a1).bind λa7=>(Dc (L,Y,M) a7.2 (7,F,D,0,0) ([(0-(F+1)),(0-(((L.length:Int)+D)+1))]:aM) U).bind λa6=>J (ab .i64 (D+1))<|some (.inl (F,(D+1),L,Y,M,N,Z,ah,an,ar,az,aE,O,a6,()))else some (.inr (F,L,Y,M,N,Z,ah,an,ar,az,aE,O,U,()))
def JH:Lp (Int×Int×aM×yf) (Int×yf):=λ(D,L,M,F,Z,ah,an,ar,az,aE,a1,a6,a7,a8,bb,N,_)=>bif decide (F<(M.length:Int))then(ag M F).bind λY=>J (ab .i64 (D+1))<|J (ab .i64 (0-(D+1)))<|(ag M F).bind λO=>J (ab .i64 (O+1))<|J (ab .i64 (0-(O+1)))<|(En ([(0-(D+1)),(0-(O+1))]:aM)).bind λU=>J (N.length+([((9,D,L,Y,0),U)]:cF).length<=1000000000)<|J (ab .i64 (F+1))<|some (.inl (D,L,M,(F+1),Z,ah,an,ar,az,aE,a1,a6,a7,a8,bb,(N++([((9,D,L,Y,0),U)]:cF)),()))else some (.inr (D,L,Z,ah,an,ar,az,aE,a1,a6,a7,a8,bb,N,()))
def JG:Lp (Int×yf) nv:=λ(Z,D,N,ah,an,az,aE,a1,a6,a7,F,a8,bb,L)=>bif decide (D<(F.length:Int))then(ag F D).bind λU=>(FM N U).bind λO=>(ae JH (Z,D,O,0,N,ah,an,az,aE,a1,a6,a7,F,a8,bb,L)).bind λ(Y,M,ar)=>J (ab .i64 (M+1))<|some (.inl (Y,(M+1),ar))else some (.inr (L))
def J0(x:uL)(L:Int)(l:cF):ra:=(ag x.1 L).bind λD=>J (ab .i64 (L+1))<|(ae Di (L,(L+1),x.1,x.2.1,x.2.2,D.1.1,D.1.2.1,D.1.2.2.1,D.1.2.2.2.1,D.1.2.2.2.2.1,D.1.2.2.2.2.2.1,D.1.2.2.2.2.2.2.1,D.1.2.2.2.2.2.2.2,l,())).bind λ(F,M,N,O,ar,az,aE,a1,a6,a7,U,a8,Z,_)=>J (ab .i64 (F+1))<|J (ab .i64 (0-(F+1)))<|(Dc (M,N,O) U (4,F,0,0,0) ([(0-(F+1))]:aM) Z).bind λeF=>(ae yP (F,0,M,N,O,ar,az,aE,a1,a6,a7,U,a8,eF,())).bind λ(ah,an)=>(ae JG (ah,0,an)).bind λ(Y,_)=>some Y
def J':Lp (aM×NR) (Unit⊕Bool×Unit):=λ(x,y,i,_)=>bif decide (i<5)then(ag x i).bind λD=>(ag y i).bind λF=>bif !decide (D=F)then(ag x i).bind λL=>(ag y i).bind λM=>some (.inr (.inr (decide (L<M),())))else J (ab .i64 (i+1))<|some (.inl (x,y,(i+1),()))else some (.inr (.inl (())))
def KN(a b:nL):bX:=(ae J' (([a.1,a.2.1,a.2.2.1,a.2.2.2.1,a.2.2.2.2]:aM),([b.1,b.2.1,b.2.2.1,b.2.2.2.1,b.2.2.2.2]:aM),0,())).bind λo=>match o with|.inl (_)=>some false|.inr (D,_)=>some D
def oV(rc:cF->ra):Lp (cF×cF×Int×Int×nv) nv:=λ(M,N,D,F,L,_)=>let O:Option (cF×cF×Int×Int×nv⊕nv):=bif decide (F=(N.length:Int))then(ag M D).bind λU=>J (L.length+([U]:cF).length<=1000000000)<|J (ab .i64 (D+1))<|some (.inl (M,N,(D+1),F,(L++([U]:cF)),()))else bif decide (D<(M.length:Int))then(ag N F).bind λar=>(ag M D).bind λaz=>(KN ar.1 az.1).bind λan=>bif !an then(ag M D).bind λY=>J (L.length+([Y]:cF).length<=1000000000)<|J (ab .i64 (D+1))<|some (.inl (M,N,(D+1),F,(L++([Y]:cF)),()))else(ag N F).bind λZ=>J (L.length+([Z]:cF).length<=1000000000)<|J (ab .i64 (F+1))<|some (.inl (M,N,D,(F+1),(L++([Z]:cF)),()))else(ag N F).bind λah=>J (L.length+([ah]:cF).length<=1000000000)<|J (ab .i64 (F+1))<|some (.inl (M,N,D,(F+1),(L++([ah]:cF)),()));bif decide (D<(M.length:Int))then O else bif decide (F<(N.length:Int))then O else some (.inr (L,()))
def J9(rc:cF->ra)(x:cF):ra:=bif decide ((x.length:Int)<2)then some x else J ((2:Int)≠0)<|J (0<=(0:Int)/\(0:Int)<=(av4 .i64 ((x.length:Int).tdiv 2))/\(av4 .i64 ((x.length:Int).tdiv 2))<=x.length)<|(rc ((x.take (av4 .i64 ((x.length:Int).tdiv 2)).toNat).drop (0:Int).toNat)).bind λF=>J ((2:Int)≠0)<|J (0<=(av4 .i64 ((x.length:Int).tdiv 2))/\(av4 .i64 ((x.length:Int).tdiv 2))<=(x.length:Int)/\(x.length:Int)<=x.length)<|(rc ((x.take (x.length:Int).toNat).drop (av4 .i64 ((x.length:Int).tdiv 2)).toNat)).bind λL=>(ae (oV rc) (F,L,0,0,[],())).bind λ(D,_)=>some D
def tF(rc:nv->ra):nv->ra:=λx=>J9 (λa0=>rc (a0,())) x.1
def Q4(a0:cF):ra:=pG tF (a0,())
def Jv:Lp (Int×dr×aT×br×nv) nv:=λ(i,D,F,L,M,_)=>bif decide (i<(D.length:Int))then(J0 (D,F,L) i M).bind λof=>J (ab .i64 (i+1))<|some (.inl ((i+1),D,F,L,of,()))else some (.inr (M,()))
def Dr(c:uL):ra:=(CO c c.2.1 (1,0,0,0,0) []).bind λeF=>(ae Jv (0,c.1,c.2.1,c.2.2,eF,())).bind λ(D,_)=>(Q4 D).bind λF=>some F
def J1(c:uL):bU:=J (ab .i64 ((c.1.length:Int)+(c.2.2.length:Int)))<|some ((c.1.length:Int)+(c.2.2.length:Int))
theorem ai{c:Prop}{_:Decidable c}{R:Type}{k:Option R}(h:c):J c k=k:=if_pos h
theorem dY{p:Prop}(h:p)(i:Decidable p): @decide p i=true:=by grind
theorem dN{p:Prop}(h:¬p)(i:Decidable p): @decide p i=false:=by grind
theorem F4{R:Type}{k:Option R}:only true k=k:=rfl
theorem aC{n:Nat}{R:Type}{k:Option R}(h:n<=4611686018427387904):J (ab .i64 (n:Int)) k=k:=ai (aro h)
theorem ba{n:Int}(h: -9223372036854775808<=n/\n<=9223372036854775807):ab .i64 n:=by rw[Mg];exact h
theorem rL{V R:Type}{f:V->Option (V⊕R)}(st:Nat->V)(out:Nat->R)(p:Nat->Bool)(x:aa)
  (h1:∀k,k<x.length->p (dQ x k)=false->f (st k)=some (.inl (st (k+1))))
  (h2:∀k,k<=x.length->(k<x.length->p (dQ x k)=true)->f (st k)=some (.inr (out k))):∀k,k<=x.length->ae f (st k)=some (out (al p x k)):=by
 have:∀n k,x.length-k=n->k<=x.length->ae f (st k)=some (out (al p x k)):=by
  intro n
  induction n with
  |zero=>intro k F hk;rw[bI,h2 k hk (λh=>by omega),R5 _ _ _ (by omega)]
  |succ n J=>
   intro k F hk;have D:k<x.length:=by omega
   rw[bI];cases hp:p (dQ x k)with
   |true=>rw[h2 k hk (λ_=>hp),Fh _ _ _ D hp]
   |false=>rw[h1 k D hp];show ae f (st (k+1))=_;rw[J (k+1) (by omega) (by omega),EL _ _ _ D hp]
 grind
theorem fA{l:aa}{k:Nat}(h:k<l.length):(l[k]).toNat=dQ l k:=(wP l k h).symm
theorem aS(k:Nat):((k:Int)+1)=((k+1:Nat):Int):=rfl
theorem ac9{l:aa}{k:Nat}(h:k<l.length){R:Type}(f:UInt8->Option R):(ag l (k:Int)).bind f=f l[k]:=by rw[Mi h];rfl
theorem ai6(x:aa)(L:x.length<=20000)(D a b c d e:Int):ae D7 (x,D,0,a,b,c,d,e,())=some (x,D,(al mA x 0:Int),a,b,c,d,e,()):=by
 refine rL (λk=>(x,D,(k:Int),a,b,c,d,e,())) (λk=>(x,D,(k:Int),a,b,c,d,e,())) mA x (λk hk hp=>?_) (λk hk hp=>?_) 0 (au2 _)
 ·have J:¬(((x[k]).toNat)=35):=by
    rw[fA hk];unfold mA at hp;grind
  simp (disch:=omega) only[K0,D7]
 ·by_cases F:k<x.length
  ·have J:((x[k]).toNat)=35:=by
     have:=hp F;rw[fA F];unfold mA at this;have:dQ x k=35:=by grind
     omega
   simp (disch:=omega) only[K0,D7]
  ·grind[D7]
theorem qU{x:aa}{e:Nat}(he:e<=x.length):(x.take e).length=e:=by grind
theorem vl{x:aa}{e k:Nat}(h:k<e):dQ (x.take e) k=dQ x k:=aqr x e k h
theorem abi{n:Nat}(h:bk n=false):¬((n:Int)=32)/\¬((n:Int)=9):=by grind[bk]
theorem ZV{n:Nat}(h:bk n=true):(n:Int)=32\/(¬((n:Int)=32)/\(n:Int)=9):=by grind[bk]
theorem acN{n:Nat}(h:iV n=false):¬((n:Int)<33)/\¬(126<(n:Int)):=by grind[iV]
theorem ace{n:Nat}(h:iV n=true):(n:Int)<33\/(¬((n:Int)<33)/\126<(n:Int)):=by grind[iV]
theorem ai5(x:aa)(M:x.length<=20000)(e:Nat)(he:e<=x.length)(no J a b c d F:Int)(ws:ak)(cs:List Int)(k:Nat)(hk:k<=e):
  ae zj (x,no,(e:Int),J,(k:Int),a,b,c,d,F,ws,cs,())=some (x,no,(e:Int),J,(al bk (x.take e) k:Int),a,b,c,d,F,ws,cs,()):=by
 refine rL (λk=>(x,no,(e:Int),J,(k:Int),a,b,c,d,F,ws,cs,())) (λk=>(x,no,(e:Int),J,(k:Int),a,b,c,d,F,ws,cs,())) bk (x.take e) (λk hk hp=>?_) (λk hk hp=>?_) k (by grind)
 ·rw[qU he]at hk;have D:k<x.length:=by omega
  rw[vl hk]at hp;obtain⟨h1,h2⟩:=abi hp;rw[<-fA D]at h1 h2;simp (disch:=omega) only[K0,zj]
 ·rw[qU he]at hk hp;by_cases D:k<e
  ·have L:k<x.length:=by omega
   have hp:=hp D;rw[vl D]at hp;rcases ZV hp with h1|⟨h1,h2⟩
   ·rw[<-fA L]at h1;simp (disch:=omega) only[K0,zj]
   ·rw[<-fA L]at h1 h2;simp (disch:=omega) only[K0,zj]
  ·grind[zj]
theorem ai4(x:aa)(N:x.length<=20000)(e:Nat)(he:e<=x.length)(no J L a b c d F:Int)(ws:ak)(cs:List Int)(k:Nat)(hk:k<=e):
  ae zi (x,no,J,L,(e:Int),(k:Int),a,b,c,d,F,ws,cs,())=some (if al iV (x.take e) k<e then au8 (0,1,no,((al iV (x.take e) k+1:Nat):Int),())else au6 (x,no,J,L,(e:Int),a,b,c,d,F,ws,cs,())):=by
 refine rL (λk=>(x,no,J,L,(e:Int),(k:Int),a,b,c,d,F,ws,cs,())) (λk=>if k<e then au8 (0,1,no,((k+1:Nat):Int),())else au6 (x,no,J,L,(e:Int),a,b,c,d,F,ws,cs,())) iV (x.take e) (λk hk hp=>?_) (λk hk hp=>?_) k (by grind)
 ·rw[qU he]at hk;have D:k<x.length:=by omega
  rw[vl hk]at hp;obtain⟨h1,h2⟩:=acN hp;rw[<-fA D]at h1 h2;simp (disch:=omega) only[K0,zi]
 ·rw[qU he]at hk hp;by_cases D:k<e
  ·have M:k<x.length:=by omega
   have hp:=hp D;rw[vl D]at hp;rw[if_pos D];rcases ace hp with h1|⟨h1,h2⟩
   ·rw[<-fA M]at h1;simp (disch:=omega) only[K0,zi]
   ·rw[<-fA M]at h1 h2;simp (disch:=omega) only[K0,zi]
  ·grind[zi]
def iu(cs:List Nat):List Int:=cs.map λ(c:Nat)=>(c:Int)
theorem YR(cs:List Nat)(k:Nat):iu (cs++[k])=iu cs++[(k:Int)]:=by simp[iu]
theorem Lm(cs:List Nat):(iu cs).length=cs.length:=by simp [iu]
def w7(no:Int):NV->(Int×Int×Int×Int×Int×ak×List Int×Unit)⊕(Int×Int×Int×Int×Unit)
 |.ok ws cs=>.inl (0,0,0,0,no,ws,iu cs,())
 |.bad c D=>.inr (0,(c:Int),no,(D:Int),())
theorem ai3(x:aa)(hx:x.length<=20000)(e:Nat)(he:e<=x.length)(no:Int):∀(n k:Nat) (ws:ak) (cs:List Nat),e-k<=n->k<=e->ws.length=cs.length->ws.length<=20->
  ae rI (x,no,(e:Int),(k:Int),0,0,0,0,no,ws,iu cs,())=some (w7 no (scan (x.take e) k ws cs)):=by
 intro n
 induction n with
 |zero=>
  intro k ws cs hn hk hw O;have an:k=e:=by omega
  rw[bI,wA _ _ _ _ (by rw[qU he];omega)]
  simp (disch:=omega) only[K0,rI,w7]
 |succ n ih=>
  intro k ws cs hn hk hw O;by_cases N:k<e
  ·have J:k<x.length:=by omega
   have F:k<(x.take e).length:=by rw[qU he];exact N
   rw[bI];cases D:bk (dQ (x.take e) k)with
   |true=>
    have e1:rI (x,no,e,k,0,0,0,0,no,ws,iu cs,())=some (.inl (x,no,e,((k+1):Int),0,0,0,0,no,ws,iu cs,())):=by
     rw[vl N]at D;rcases ZV D with h1|⟨h1,h2⟩
     ·rw[<-fA J]at h1;simp (disch:=omega) only[K0,rI]
     ·rw[<-fA J]at h1 h2;simp (disch:=omega) only[K0,rI]
    rw[e1,Ek _ _ _ _ F D];exact ih (k+1) ws cs (by omega) (by omega) hw O
   |false=>
    have U:=D;rw[vl N]at U;obtain⟨h1,h2⟩:=abi U;rw[<-fA J]at h1 h2;have az:=zU _ _ F D;have Z:=r5 bk (x.take e) k (aB7 F);rw[qU he]at Z;simp only[rI,dY (show(k:Int)<e by omega),ac9 J,dN h1,dN h2,ai5 x hx e he no k 0 0 0 0 no ws (iu cs) k hk,at0]
    by_cases aE:20<=ws.length
    ·simp (disch:=omega) only[K0];rw[wi _ _ _ _ F D (.inl (by omega))];rfl
    ·simp only[dN (show¬20<=(ws.length:Int) by omega)]
     have ar:((al bk (x.take e) k):Int)-k=((al bk (x.take e) k-k:Nat):Int):=by omega
     rw[ar,aC (by omega)]
     by_cases ah:80<al bk (x.take e) k-k
     ·simp (disch:=omega) only[K0];rw[wi _ _ _ _ F D (.inr ah)];rfl
     ·simp only[dN (show¬80<((al bk (x.take e) k-k:Nat):Int) by omega),ai4 x hx (al bk (x.take e) k) (by omega) no e k 0 0 0 0 no ws (iu cs) k (by omega),at0]
      have Y:¬(ws.length=20\/80<al bk (x.take e) k-k):=by omega
      have L:(x.take e).take (al bk (x.take e) k)=x.take (al bk (x.take e) k):=by rw[List.take_take];congr 1;omega
      by_cases M:al iV (x.take (al bk (x.take e) k)) k<al bk (x.take e) k
      ·rw[if_pos M,Fk _ _ _ _ F D Y (L▸M),L];rfl
      ·rw[if_neg M,EP _ _ _ _ F D Y (L▸M),L];simp only[];rw[ai (show(0:Int)<=k/\k<=((al bk (x.take e) k):Int)/\((al bk (x.take e) k):Int)<=x.length by omega)]
       rw[ai (by simp only[K0];omega)]
       simp (disch:=omega) only[K0];rw[ai (by simp only[K0,Lm];omega)]
       have:=ih (al bk (x.take e) k) (ws++[(x.take (al bk (x.take e) k)).drop k]) (cs++[k+1]) (by omega) Z (by simp;omega) (by simp;omega)
       rw[YR]at this;exact this
  ·have an:k=e:=by omega
   rw[bI,wA _ _ _ _ (by rw[qU he];omega)]
   simp only[rI,dN (show¬k<(e:Int) by omega),cond_false,w7]
def acs(no:Int):NV->(Int×ak×List Int)×Int×Int×Int
 |.ok ws cs=>((no,ws,iu cs),(0,0,0))
 |.bad c D=>((0,[],[]),((c:Int),no,(D:Int)))
theorem XJ(x:aa)(D:x.length<=20000)(no:Int):zO x no=some (acs no (nX x)):=by
 have he:al mA x 0<=x.length:=r5 _ _ _ (au2 _);have F:ae rI (x,no,(al mA x 0),0,0,0,0,0,no,[],[],())=some (w7 no (scan (x.take (al mA x 0)) 0 [] [])):=ai3 x D (al mA x 0) he no (al mA x 0) 0 [] [] (by simp) (au2 _) rfl (by simp)
 simp[zO,ai6 x D no,F];unfold nX bare;cases scan (x.take (al mA x 0)) 0 [] []<;>rfl
theorem JS(n:Nat):D' (n:Int)=some (bk n):=by
 unfold D';by_cases h:n=32
 ·subst h;rfl
 ·simp (disch:=omega) only[K0];simp[Option.some.injEq];by_cases D:n=9
  ·subst D;rfl
  ·simp (disch:=omega) only[K0];simp[bk,h,D]
theorem air(t:aa)(L:t.length<=20000)(no F a b c d D:Int)(ws:ak)(cs:List Int)(k:Nat)(hk:k<=t.length):
  ae DB (no,t,F,(k:Int),a,b,c,d,D,ws,cs,())=some (no,t,F,(al bk t k:Int),a,b,c,d,D,ws,cs,()):=by
 refine rL (λk=>(no,t,F,(k:Int),a,b,c,d,D,ws,cs,())) (λk=>(no,t,F,(k:Int),a,b,c,d,D,ws,cs,())) bk t (λk hk hp=>?_) (λk hk hp=>?_) k hk
 ·simp (disch:=omega) only[K0,DB,fA hk,JS,hp]
 ·by_cases J:k<t.length
  ·simp (disch:=omega) only[K0,DB,fA J,JS,hp J]
  ·grind[DB]
theorem aiq(t:aa)(M:t.length<=20000)(e:Nat)(he:e<=t.length)(no J a b c d F:Int)(ws:ak)(cs:List Int)(k:Nat)(hk:k<=e):
  ae yY (no,t,J,(e:Int),(k:Int),a,b,c,d,F,ws,cs,())=some (if al iV (t.take e) k<e then au8 (0,1,no,((al iV (t.take e) k+1:Nat):Int),())else au6 (no,t,J,(e:Int),a,b,c,d,F,ws,cs,())):=by
 refine rL (λk=>(no,t,J,(e:Int),(k:Int),a,b,c,d,F,ws,cs,())) (λk=>if k<e then au8 (0,1,no,((k+1:Nat):Int),())else au6 (no,t,J,(e:Int),a,b,c,d,F,ws,cs,())) iV (t.take e) (λk hk hp=>?_) (λk hk hp=>?_) k (by grind)
 ·rw[qU he]at hk;have D:k<t.length:=by omega
  rw[vl hk]at hp;obtain⟨h1,h2⟩:=acN hp;rw[<-fA D]at h1 h2;simp (disch:=omega) only[K0,yY]
 ·rw[qU he]at hk hp;by_cases D:k<e
  ·have L:k<t.length:=by omega
   have hp:=hp D;rw[vl D]at hp;rw[if_pos D];rcases ace hp with h1|⟨h1,h2⟩
   ·rw[<-fA L]at h1;simp (disch:=omega) only[K0,yY]
   ·rw[<-fA L]at h1 h2;simp (disch:=omega) only[K0,yY]
  ·grind[yY]
theorem aip(t:aa)(M:t.length<=20000)(no:Int):∀(n k:Nat) (ws:ak) (cs:List Nat),t.length-k<=n->k<=t.length->ws.length=cs.length->ws.length<=20->
  ae vW (no,t,(k:Int),0,0,0,0,no,ws,iu cs,())=some (w7 no (scan t k ws cs)):=by
 intro n
 induction n with
 |zero=>
  intro k ws cs Z hk hw U;rw[bI,wA _ _ _ _ (by omega)]
  grind[vW,w7]
 |succ n ih=>
  intro k ws cs Z hk hw U;by_cases D:k<t.length
  ·rw[bI];cases F:bk (dQ t k)with
   |true=>
    have O:vW (no,t,k,0,0,0,0,no,ws,iu cs,())=some (.inl (no,t,((k+1):Int),0,0,0,0,no,ws,iu cs,())):=by simp (disch:=omega) only[K0,vW,fA D,JS,F]
    rw[O,Ek _ _ _ _ D F];grind
   |false=>
    have ar:=zU _ _ D F;have N:=r5 bk t k hk;simp only[vW,dY (show(k:Int)<t.length by omega),ac9 D,fA D,JS,at0,F,air t M no k 0 0 0 0 no ws (iu cs) k hk]
    by_cases an:ws.length=20
    ·simp (disch:=omega) only[K0];rw[wi _ _ _ _ D F (.inl an)];rfl
    ·simp only[dN (show¬(ws.length:Int)=20 by omega)]
     have ah:((al bk t k):Int)-k=((al bk t k-k:Nat):Int):=by omega
     rw[ah,aC (by omega)]
     by_cases Y:80<al bk t k-k
     ·simp (disch:=omega) only[K0];rw[wi _ _ _ _ D F (.inr Y)];rfl
     ·simp only[dN (show¬80<((al bk t k-k:Nat):Int) by omega),aiq t M (al bk t k) N no k 0 0 0 0 no ws (iu cs) k (by omega),at0]
      have L:¬(ws.length=20\/80<al bk t k-k):=by omega
      by_cases J:al iV (t.take (al bk t k)) k<al bk t k
      ·rw[if_pos J,Fk _ _ _ _ D F L J];rfl
      ·rw[if_neg J,EP _ _ _ _ D F L J];simp only[];rw[ai (show(0:Int)<=k/\k<=((al bk t k):Int)/\((al bk t k):Int)<=t.length by omega)]
       simp (disch:=omega) only[K0,Lm];have:=ih (al bk t k) (ws++[(t.take (al bk t k)).drop k]) (cs++[k+1]) (by omega) N (by simp;omega) (by grind)
       grind[YR]
  ·grind
theorem asW:gJ 35=mA:=rfl
theorem asX:gJ 10=dO:=rfl
theorem as4(l:aa)(h:l.length<=20000):lp l T7=some (bare l,l.drop (al mA l 0+1),decide (al mA l 0<l.length)):=by unfold lp T7;simp only[];rw[if_pos (by omega)];unfold nt;rw[asW];rfl
theorem as5(l:aa)(h:l.length<=20000):lp l T8=some (l.take (al dO l 0),l.drop (al dO l 0+1),decide (al dO l 0<l.length)):=by unfold lp T8;simp only[];rw[if_pos (by omega)];unfold nt;rw[asX]
theorem Xh(no:Int)(x:aa)(J:x.length<=20000):zl no x=some (acs no (nX x)):=by
 have F:(bare x).length<=20000:=by grind[bare]
 have D:ae vW (no,bare x,0,0,0,0,0,no,[],[],())=some (w7 no (scan (bare x) 0 [] [])):=aip (bare x) F no (bare x).length 0 [] [] (by simp) (au2 _) rfl (by simp)
 simp[zl,as4 x J,D];unfold nX;cases scan (bare x) 0 [] []<;>rfl
theorem Rz(t:aa)(n:Nat):∀(k:Nat) (ws:ak) (cs:List Nat) (c J:Nat),t.length-k<=n->scan t k ws cs=.bad c J->c=1\/c=2:=by
 induction n with
 |zero=>intro k ws cs c J L h;rw[wA _ _ _ _ (by omega)]at h;grind
 |succ n M=>
  intro k ws cs c J L h;by_cases F:k<t.length
  ·cases D:bk (dQ t k)with
   |true=>rw[Ek _ _ _ _ F D]at h;grind
   |false=>
    by_cases h1:ws.length=20\/80<al bk t k-k
    ·rw[wi _ _ _ _ F D h1]at h;grind
    ·by_cases h2:al iV (t.take (al bk t k)) k<al bk t k
     ·rw[Fk _ _ _ _ F D h1 h2]at h;grind
     ·rw[EP _ _ _ _ F D h1 h2]at h;have:=zU _ _ F D;grind
  ·grind
def mn(d:pw):Int×ak×List Int:=((d.no:Int),d.ws,iu d.cs)
def ng:UY->(Int×Int×Int×(List (Int×ak×List Int))×Unit)⊕(Int×Int×Int×Unit)
 |.ok ls=>.inl (0,0,0,ls.map mn,())
 |.bad c l D=>.inr ((c:Int),(l:Int),(D:Int),())
theorem W8(D:Nat)(ah:D<=100000):∀(n:Nat) (rest:aa) (no:Nat) (out:List pw),rest.length<=n->rest.length<=20000->1<=no->no<=D+1->out.length<no->
  ae zb ((D:Int),(no:Int),rest,0,0,0,out.map mn,())=some (ng (fi D rest no out)):=by
 intro n
 induction n with
 |zero=>
  intro rest no out Z N h1 Y ho;have e:rest=[]:=az2.1 (by omega)
  subst e;rw[bI,K2];simp[zb,ng]
 |succ n O=>
  intro rest no out Z N h1 Y ho;by_cases e:rest=[]
  ·grind
  ·rw[bI];simp only[zb];by_cases hm:D<no
   ·rw[KL _ _ _ _ e hm];simp (disch:=omega) only[K0];rfl
   ·have M:(rest.take (al dO rest 0)).length<=20000:=by rw[aw7];omega
    simp (disch:=omega) only[K0,as5 rest N];cases hs:nX (rest.take (al dO rest 0))with
    |bad c U=>
     rw[K3 _ _ _ _ e hm hs];have hc:¬(c=0):=by have:=Rz _ _ _ _ _ _ _ (at9 _) hs;omega
     have F:zl no (rest.take (al dO rest 0))=some ((0,[],[]),((c:Int),(no:Int),(U:Int))):=by rw[Xh _ _ M,hs];rfl
     simp (disch:=omega) only[K0,F];rfl
    |ok ws cs=>
     rw[Lz _ _ _ _ e hm hs];have J:(rest.drop (al dO rest 0+1)).length<=n:=by have:0<rest.length:=ay5.2 e;rw[ay3];omega
     have L:(rest.drop (al dO rest 0+1)).length<=20000:=by rw[ay3];omega
     have F:zl no (rest.take (al dO rest 0))=some (((no:Int),ws,iu cs),(0,0,0)):=by rw[Xh _ _ M,hs];rfl
     simp only[K0,F];by_cases hw:ws.length=0
     ·simp only[dN (show¬0<(ws.length:Int) by omega)]
      rw[if_pos hw];exact O _ (no+1) out J L (by simp) (by omega) (by omega)
     ·simp only[dY (show(0:Int)<ws.length by omega)]
      rw[ai (by grind),if_neg hw]
      have:=O (rest.drop (al dO rest 0+1)) (no+1) (out++[⟨no,ws,cs⟩]) J L (by simp) (by omega) (by grind)
      rw[aw1]at this;exact this
def asM:UY->(List (Int×ak×List Int))×Int×Int×Int
 |.ok ls=>(ls.map mn,(0,0,0))
 |.bad c l D=>([],((c:Int),(l:Int),(D:Int)))
def iM(s:aa):(List (Int×ak×List Int))×Int×Int×Int:=if 20000<s.length then([],(2,0,0))else asM (fi 800 s 1 [])
theorem yZ(s:aa):zz s=some (iM s):=by
 unfold zz iM;by_cases h:20000<s.length
 ·grind
 ·simp (disch:=omega) only[K0];have h1:ae zb (800,1,s,0,0,0,[],())=some (ng (fi 800 s 1 [])):=W8 800 (by simp) s.length s 1 [] (at9 _) (by omega) (by simp) (by simp) (by simp)
  simp only[ED,h1];cases fi 800 s 1 []<;>rfl
theorem anf(p:Nat->Bool)(l:aa)(k:Nat):al p l k=k+al p (l.drop k) 0:=by simp[al]
theorem ah6(x:aa)(J:x.length<=20000)(m no at_ a b c:Int)(out:List (Int×ak×List Int))(k:Nat)(hk:k<=x.length):
  ae Ds (x,m,no,at_,(k:Int),a,b,c,out,())=some (x,m,no,at_,(al dO x k:Int),a,b,c,out,()):=by
 refine rL (λk=>(x,m,no,at_,(k:Int),a,b,c,out,())) (λk=>(x,m,no,at_,(k:Int),a,b,c,out,())) dO x (λk hk hp=>?_) (λk hk hp=>?_) k hk
 ·have F:¬(((x[k]).toNat)=10):=by
    rw[fA hk];unfold dO at hp;grind
  simp (disch:=omega) only[K0,Ds]
 ·by_cases D:k<x.length
  ·have F:((x[k]).toNat)=10:=by
     have:=hp D;rw[fA D];unfold dO at this;have:dQ x k=10:=by grind
     omega
   simp (disch:=omega) only[K0,Ds]
  ·grind[Ds]
theorem WW(D:Nat)(ar:D<=100000)(x:aa)(hx:x.length<=20000):∀(n k:Nat) (no:Nat) (out:List pw),x.length-k<=n->k<=x.length+1->1<=no->no<=D+1->out.length<no->
  ae vR (x,(D:Int),(no:Int),(k:Int),0,0,0,out.map mn,())=some (ng (fi D (x.drop k) no out)):=by
 have fin:∀(k no:Nat) out,¬k<x.length->ae vR (x,D,no,k,0,0,0,out.map mn,())=some (ng (fi D (x.drop k) no out)):=λk no out h=>by
  rw[bI,az3 (by omega),K2]
  simp (disch:=omega) only[K0,vR,ng]
 intro n
 induction n with
 |zero=>intro k no out Y hk h1 N Z;exact fin k no out (by omega)
 |succ n L=>
  intro k no out Y hk h1 N Z;by_cases U:k<x.length
  ·have e:x.drop k≠[]:=by intro h;have:=congrArg List.length h;rw[ay3]at this;simp at this;omega
   have hle:=r5 dO x k (by omega)
   have an:=FA dO x k;have hd:=anf dO x k;have ah:(x.take (al dO x k)).drop k=(x.drop k).take (al dO (x.drop k) 0):=by rw[List.drop_take];congr 1;omega
   have O:x.drop (al dO x k+1)=(x.drop k).drop (al dO (x.drop k) 0+1):=by rw[List.drop_drop];congr 1;omega
   rw[bI];simp only[vR,ah6 x hx _ _ _ _ _ _ _ k (by omega),at0]
   by_cases hm:D<no
   ·rw[KL _ _ _ _ e hm];simp (disch:=omega) only[K0];rfl
   ·simp only[av0];simp (disch:=omega) only[K0];have F:((x.take (al dO x k)).drop k).length<=20000:=by rw[ay3,aw7];omega
    rw[ah]at F⊢;cases hs:nX ((x.drop k).take (al dO (x.drop k) 0))with
    |bad c M=>
     rw[K3 _ _ _ _ e hm hs];have hc:¬(c=0):=by have:=Rz _ _ _ _ _ _ _ (at9 _) hs;omega
     have J:zO ((x.drop k).take (al dO (x.drop k) 0)) no=some ((0,[],[]),((c:Int),(no:Int),(M:Int))):=by rw[XJ _ F,hs];rfl
     simp (disch:=omega) only[K0,J];rfl
    |ok ws cs=>
     rw[Lz _ _ _ _ e hm hs,<-O];have J:zO ((x.drop k).take (al dO (x.drop k) 0)) no=some (((no:Int),ws,iu cs),(0,0,0)):=by rw[XJ _ F,hs];rfl
     simp only[K0,J];by_cases hw:ws.length=0
     ·simp only[dN (show¬0<(ws.length:Int) by omega),aC (show no+1<=4611686018427387904 by omega)]
      rw[if_pos hw];exact L (al dO x k+1) (no+1) out (by omega) (by omega) (by simp) (by omega) (by omega)
     ·simp only[dY (show(0:Int)<ws.length by omega),aC (show no+1<=4611686018427387904 by omega)]
      rw[ai (by simp only[K0,au1];omega),if_neg hw]
      have:=L (al dO x k+1) (no+1) (out++[⟨no,ws,cs⟩]) (by omega) (by omega) (by simp) (by omega) (by simp;omega)
      rw[aw1]at this;exact this
  ·exact fin k no out U
theorem zk(s:aa):zZ s=some (iM s):=by
 unfold zZ iM;by_cases h:20000<s.length
 ·grind
 ·simp (disch:=omega) only[K0];have h1:ae vR (s,800,1,0,0,0,0,[],())=some (ng (fi 800 s 1 [])):=WW 800 (by simp) s (by omega) s.length 0 1 [] (by simp) (by simp) (by simp) (by simp) (by simp)
  simp only[DL,h1];cases fi 800 s 1 []<;>rfl
theorem lz{V R α:Type}{f:V->Option (V⊕R)}(l:List α)(p:α->Bool)(st:Nat->V)(a b:R)
  (h1:∀k (h:k<l.length),p l[k]=true->f (st k)=some (.inl (st (k+1))))
  (h2:∀k (h:k<l.length),p l[k]=false->f (st k)=some (.inr b))
  (F:f (st l.length)=some (.inr a)):ae f (st 0)=some (if l.all p=true then a else b):=by
 have:∀n k,l.length-k=n->k<=l.length->ae f (st k)=some (if(l.drop k).all p=true then a else b):=by
  intro n
  induction n with
  |zero=>grind[bI]
  |succ n L=>
   intro k J hk;have D:k<l.length:=by omega
   rw[bI,av6 D];cases hp:p l[k]with
   |true=>grind
   |false=>grind
 grind
theorem aI{α R:Type}{l:List α}{k:Nat}(h:k<l.length)(f:α->Option R):(ag l (k:Int)).bind f=f l[k]:=by rw[Mi h];rfl
theorem Uk{α R:Type}{l:List α}(h:0<l.length)(f:α->Option R):(ag l 0).bind f=f l[0]:=aI (k:=0) h f
def gC(c:UInt8):Bool:=bJ c||(decide (97<=c.toNat)&&decide (c.toNat<=122))||decide (c.toNat=45)
theorem Zi(c:UInt8):gC c=true<->((48<=c.toNat/\c.toNat<=57)\/(97<=c.toNat/\c.toNat<=122)\/c.toNat=45):=by grind[gC,bJ]
theorem aa2(c:UInt8):bJ c=true<->(48<=c.toNat/\c.toNat<=57):=by simp[bJ]
theorem LL{c:UInt8}(h:gC c=true):((48<=c.toNat/\c.toNat<=57)\/(97<=c.toNat/\c.toNat<=122)\/c.toNat=45):=(Zi c).1 h
theorem L9{c:UInt8}(h:gC c=false):¬((48<=c.toNat/\c.toNat<=57)\/(97<=c.toNat/\c.toNat<=122)\/c.toNat=45):=λg=>by rw[(Zi c).2 g]at h;cases h
theorem nV{c:UInt8}(h:bJ c=true):(48<=c.toNat/\c.toNat<=57):=(aa2 c).1 h
theorem MH{c:UInt8}(h:bJ c=false):¬(48<=c.toNat/\c.toNat<=57):=λg=>by rw[(aa2 c).2 g]at h;cases h
theorem ah0(s:aa)(hs:s.length<=20000):ae Dp (s,(s.length:Int),0,())=some (if s.all gC=true then .inl (s,())else .inr ()):=by
 refine lz s gC (λk=>(s,(s.length:Int),(k:Int),())) _ _ (λk h hp=>?_) (λk h hp=>?_) ?_
 ·have hp:=LL hp;simp (disch:=omega) only[K0,Dp];grind
 ·have hp:=L9 hp;simp (disch:=omega) only[K0,Dp];grind
 ·simp[Dp]
theorem W3(s:aa)(hs:s.length<=20000):J7 s=some (gD s):=by
 unfold J7;by_cases h0:s=[]
 ·subst h0;rfl
 ·have N:=ay5.2 h0;have he:s.isEmpty=false:=by cases s with|nil=>exact absurd rfl h0|cons=>rfl
  rw[dN h0];by_cases L:8<s.length
  ·simp only[K0];unfold gD;simp (disch:=omega) only[K0]
  ·simp (disch:=omega) only[K0,ah0 s hs];have D:gD s=((s.all gC)&&(!(s.all bJ)||decide (s.length=1)||decide (s.head?≠some 48))):=by unfold gD;rw[he];simp (disch:=omega) only[K0];rfl
   rw[D];cases hp:s.all gC with
   |false=>rfl
   |true=>
    simp only[if_true,tE,if_pos (show s.length<=1000000000 by omega)]
    cases M:s.all bJ with
    |false=>rfl
    |true=>
     simp only[K0];by_cases h1:s.length=1
     ·grind
     ·rw[dN h1];simp (disch:=omega) only[K0];have F:s.head?=some s[0]:=by cases s with|nil=>exact absurd rfl h0|cons a t=>rfl
      rw[F];by_cases J:s[0]=48
      ·simp_all
      ·have:¬((s[0]).toNat:Int)=48:=λe=>J (by apply UInt8.toNat_inj.1;show(s[0]).toNat=48;omega)
       rw[dN this,dY (by grind)];rfl
theorem Qs(s:aa)(hs:s.length<=20000):zx s=some (s.all bJ):=by
 have h:ae y7 (s,0,())=some (if s.all bJ=true then .inl ()else .inr ()):=by
  refine lz s bJ (λk=>(s,(k:Int),())) _ _ (λk h hp=>?_) (λk h hp=>?_) ?_
  ·have hp:=nV hp;simp (disch:=omega) only[K0,y7]
  ·have hp:=MH hp;by_cases c1:((s[k]).toNat)<48
   ·simp (disch:=omega) only[K0,y7]
   ·simp (disch:=omega) only[K0,y7]
  ·simp[y7]
 grind[zx]
theorem ajx(s:aa)(hs:s.length<=20000):ae Ev (s,0,())=some (if s.all gC=true then .inl ()else .inr ()):=by
 refine lz s gC (λk=>(s,(k:Int),())) _ _ (λk h hp=>?_) (λk h hp=>?_) ?_
 ·have hp:=LL hp;simp (disch:=omega) only[K0,Ev];grind
 ·have hp:=L9 hp;simp (disch:=omega) only[K0,Ev];grind
 ·simp[Ev]
theorem X1(s:aa)(hs:s.length<=20000):LG s=some (gD s):=by
 unfold LG;by_cases h0:s=[]
 ·subst h0;rfl
 ·have M:=ay5.2 h0;have he:s.isEmpty=false:=by cases s with|nil=>exact absurd rfl h0|cons=>rfl
  rw[dN h0];by_cases L:8<s.length
  ·simp only[K0];unfold gD;simp (disch:=omega) only[K0]
  ·have F:gD s=((s.all gC)&&(!(s.all bJ)||decide (s.length=1)||decide (s.head?≠some 48))):=by
     unfold gD;rw[he];simp (disch:=omega) only[K0];rfl
   have fin:(match(if s.all gC=true then(au6 ())else .inr ())with|.inl _=>some true |.inr _=>some false)=some (s.all gC):=by grind
   simp only[ajx s hs];rw[F];by_cases h1:1<s.length
   ·rw[dY (show(1:Int)<s.length by omega)]
    simp only[cond_true];have J:s.head?=some s[0]:=by cases s with|nil=>exact absurd rfl h0|cons a t=>rfl
    simp (disch:=omega) only[K0,J];by_cases D:s[0]=48
    ·rw[D,dN (show¬some (48:UInt8)≠some 48 from λe=>e rfl)]
     simp only[Qs s hs];grind
    ·have:¬((s[0]).toNat:Int)=48:=λe=>D (by apply UInt8.toNat_inj.1;show(s[0]).toNat=48;omega)
     rw[dN this,dY (by grind),Bool.or_true,aD4]
     simp only[cond_false];exact fin
   ·grind
theorem mR(c:UInt8)(l:aa):aw c l≠[]:=by
 cases l with
 |nil=>simp[aw]
 |cons b t=>grind[aw]
theorem mN(c:UInt8)(l:aa):(∀p∈aw c l,p.length<=l.length)/\(aw c l).length<=l.length+1:=by
 induction l with
 |nil=>simp[aw]
 |cons b t D=>grind[aw]
theorem Xc(s:aa)(hs:s.length<=20000):DT s=some (preB s):=by
 have F:strings_Split s gB=some (aw 46 s):=by unfold strings_Split gB;grind
 obtain⟨D,L⟩:=mN 46 s;unfold DT;simp[F];by_cases J:4<(aw 46 s).length
 ·simp (disch:=omega) only[K0];grind[preB]
 ·simp (disch:=omega) only[K0]
  have h:ae Du (aw 46 s,((aw 46 s).length),0,())=some (if(aw 46 s).all gD=true then .inl ()else .inr ()):=by
   refine lz (aw 46 s) gD (λk=>(aw 46 s,((aw 46 s).length:Int),(k:Int),())) _ _ (λk h hp=>?_) (λk h hp=>?_) ?_
   ·have:=D _ (at2 h);simp (disch:=omega) only[K0,Du,W3 _ (show((aw 46 s)[k]).length<=20000 by omega),hp]
   ·have:=D _ (at2 h);simp (disch:=omega) only[K0,Du,W3 _ (show((aw 46 s)[k]).length<=20000 by omega),hp]
   ·simp[Du]
  simp[preB];grind
def kS(n:Nat)(c:UInt8):Nat:=n*10+(c.toNat-48)
def aW(l:aa):Nat:=l.foldl kS 0
theorem Sq{V R:Type}{f:V->Option (V⊕R)}(s:aa)(st:Nat->Nat->V)(a:Nat->R)(b:R)
  (h1:∀k (h:k<s.length) (n:Nat),n<10^k->bJ s[k]=true->f (st k n)=some (.inl (st (k+1) (kS n s[k]))))
  (h2:∀k (h:k<s.length) (n:Nat),n<10^k->bJ s[k]=false->f (st k n)=some (.inr b))
  (M:∀n,f (st s.length n)=some (.inr (a n))):ae f (st 0 0)=some (if s.all bJ=true then a (aW s)else b):=by
 have:∀m k n,s.length-k=m->k<=s.length->n<10^k->ae f (st k n)=some (if(s.drop k).all bJ=true then a ((s.drop k).foldl kS n)else b):=by
  intro m
  induction m with
  |zero=>
   intro k n J hk F;have e:k=s.length:=by omega
   simp_all[bI]
  |succ m L=>
   intro k n J hk F;have D:k<s.length:=by omega
   rw[bI,av6 D,ay4];cases hp:bJ s[k]with
   |true=>rw[h1 k D n F hp];have:=nV hp;exact L (k+1) _ (by omega) (by omega) (by unfold kS;rw[aC0];omega)
   |false=>grind
 exact this _ 0 0 rfl (au2 _) (by simp)
theorem LJ{k n:Nat}(h:n<10^k)(hk:k<=9):n<1000000000:=aA5 h (aA8 (by simp) hk)
theorem WN(s:aa)(hs:s.length<=9):ae vN (s,0,(s.length:Int),0,())=some (if s.all bJ=true then .inl (((aW s:Nat):Int),())else .inr (0,())):=by
 refine Sq s (λk n=>(s,(n:Int),(s.length:Int),(k:Int),())) (λn=>au6 ((n:Int),())) _ (λk h n D hp=>?_) (λk h n D hp=>?_) (λn=>?_)
 ·have hp:=nV hp;have D:=LJ D (by omega)
  have F:(10*n)+(av4 .i64 (((s[k]).toNat)-48))=(kS n s[k]):=by rw[wrap_i64 (by omega)];unfold kS;omega
  simp (disch:=omega) only[K0,kS,vN,F,ud]
 ·have hp:=MH hp;by_cases c1:((s[k]).toNat)<48
  ·simp (disch:=omega) only[K0,vN]
  ·simp (disch:=omega) only[K0,vN]
 ·simp[vN]
def gQ(s:aa):Bool:=decide (s.length=1)||decide (s.head?≠some 48)
def du(s:aa):Bool:=decide (1<=s.length)&&decide (s.length<=6)&&gQ s&&s.all bJ
def xl(s:aa):Int×Bool:=if du s=true then((aW s:Int),true)else(0,false)
theorem abP{s:aa}(h:0<s.length):s.head?=some s[0]:=by cases s with|nil=>cases h|cons a t=>rfl
theorem A7{c:UInt8}:(c.toNat:Int)=48<->c=48:=⟨λe=>by apply UInt8.toNat_inj.1;show c.toNat=48;omega,λe=>by rw[e];rfl⟩
theorem Lj{s:aa}(h:1<s.length)(D:s[0]=48):gQ s=false:=by unfold gQ;rw[abP (by omega),dN (show¬s.length=1 by omega),D];rfl
theorem Rr{s:aa}(h:1<s.length)(D:¬s[0]=48):gQ s=true:=by unfold gQ;rw[abP (by omega),dN (show¬s.length=1 by omega),dY (by grind)];rfl
theorem Rs{s:aa}(h:s.length=1):gQ s=true:=by grind[gQ]
theorem ah1(s:aa):JM s 6=some (xl s):=by
 unfold JM;by_cases h1:s.length<1
 ·simp (disch:=omega) only[K0];grind[xl,du]
 ·simp (disch:=omega) only[K0];by_cases J:6<s.length
  ·simp (disch:=omega) only[K0];grind[xl,du]
  ·simp (disch:=omega) only[K0];have F:du s=(gQ s&&s.all bJ):=by unfold du;grind
   have fin:gQ s=true->(match(if s.all bJ=true then(au6 ((aW s),()):(Int×Unit)⊕(Int×Unit))else .inr (0,()))with|.inl (n,_)=>some (n,true) |.inr (x,_)=>some (x,false))=some (xl s):=λL=>by unfold xl;grind
   by_cases h2:1<s.length
   ·simp (disch:=omega) only[K0];by_cases D:s[0]=48
    ·rw[dY (A7.2 D)];unfold xl;rw[F,Lj h2 D];rfl
    ·rw[dN (λe=>D (A7.1 e))];simp only[WN s (by omega)]
     exact fin (Rr h2 D)
   ·simp (disch:=omega) only[K0];simp only[WN s (by omega)]
    exact fin (Rs (by omega))
theorem W7(s:aa)(hs:s.length<=9):ae vY (s,0,0,())=some (if s.all bJ=true then .inl (((aW s:Nat):Int),())else .inr (0,())):=by
 refine Sq s (λk n=>(s,(n:Int),(k:Int),())) (λn=>au6 ((n:Int),())) _ (λk h n D hp=>?_) (λk h n D hp=>?_) (λn=>?_)
 ·have hp:=nV hp;have D:=LJ D (by omega)
  have F:av4 .i64 ((s[k]).toNat)=((s[k]).toNat):=wrap_i64 (by omega)
  have J:(10*n)+((s[k]).toNat)-48=((kS n s[k]):Int):=by unfold kS;omega
  simp (disch:=omega) only[K0,vY,F,J]
 ·have hp:=MH hp;by_cases c1:((s[k]).toNat)<48
  ·simp (disch:=omega) only[K0,vY]
  ·simp (disch:=omega) only[K0,vY]
 ·simp[vY]
def cC(s:aa):Bool:=decide (1<=s.length)&&decide (s.length<=9)&&gQ s&&s.all bJ
theorem vU(s:aa):oZ s=some (if cC s=true then((aW s:Int),true)else(0,false)):=by
 unfold oZ;by_cases h1:s.length<1
 ·rw[dY (show(s.length:Int)<1 by omega)]
  unfold cC;rw[dN (show¬1<=s.length by omega)];rfl
 ·rw[dN (show¬(s.length:Int)<1 by omega)]
  by_cases L:9<s.length
  ·rw[dY (show(9:Int)<(s.length:Int) by omega)]
   unfold cC;rw[dN (show¬s.length<=9 by omega),aD5];rfl
  ·rw[dN (show¬(9:Int)<(s.length:Int) by omega)]
   have F:cC s=(gQ s&&s.all bJ):=by unfold cC;rw[dY (show 1<=s.length by omega),dY (show s.length<=9 by omega)];rfl
   rw[F];have fin:gQ s=true->(match(if s.all bJ=true then(au6 (((aW s:Nat):Int),()):(Int×Unit)⊕(Int×Unit))else .inr (0,()))with|.inl (n,_)=>some (n,true) |.inr (x,_)=>some (x,false))=some (if(gQ s&&s.all bJ)=true then((aW s:Int),true)else(0,false)):=λJ=>by rw[J,az4];cases s.all bJ<;>rfl
   by_cases h2:1<s.length
   ·rw[dY (show(1:Int)<(s.length:Int) by omega)]
    simp only[Uk (show 0<s.length by omega)]
    by_cases D:s[0]=48
    ·rw[dY (A7.2 D),Lj h2 D];rfl
    ·rw[dN (λe=>D (A7.1 e))];simp only[W7 s (by omega)]
     exact fin (Rr h2 D)
   ·rw[dN (show¬(1:Int)<(s.length:Int) by omega)]
    simp only[W7 s (by omega)]
    exact fin (Rs (by omega))
theorem Qr(s:aa):∃n,zw s=some (n,du s)/\(du s=true->n=(aW s:Int)):=by
 unfold zw;rw[vU];have e:du s=(cC s&&decide (s.length<=6)):=by grind[du,cC]
 cases D:cC s with
 |true=>
  refine⟨(aW s),?_,λ_=>rfl⟩;rw[e];simp[cond_true];by_cases h:s.length<=6
  ·grind
  ·grind
 |false=>simp_all
def bG(c:Nat):Bool:=c==45
theorem asV:gJ 45=bG:=rfl
theorem as3(l:aa)(h:l.length<=20000):lp l oj=some (l.take (al bG l 0),l.drop (al bG l 0+1),decide (al bG l 0<l.length)):=by unfold lp oj;simp only[];rw[if_pos (by omega)];unfold nt;rw[asV]
theorem LZ(s:aa)(hs:s.length<=20000):strings_Split s gB=some (aw 46 s):=by grind[strings_Split,gB]
def cr(s:aa):Bool:=(!decide (al bG s 0<s.length)||preB (s.drop (al bG s 0+1)))&&decide ((aw 46 (s.take (al bG s 0))).length=3)&&(aw 46 (s.take (al bG s 0))).all du
def aO(s:aa):cN:=match aw 46 (s.take (al bG s 0))with
 |[a,b,c]=>(((aW a:Int),(aW b:Int),(aW c:Int)),s.drop (al bG s 0+1))
 |_=>((0,0,0),[])
def jG(s:aa):cN×Bool:=if cr s=true then(aO s,true)else(((0,0,0),[]),false)
theorem three{α:Type}{l:List α}(h:l.length=3):∃a b c,l=[a,b,c]:=by
 match l,h with
 |[a,b,c],_=>grind
theorem ahF(a b c t:aa):ae tB ([a,b,c],3,0,0,0,0,[],0,0,0,t,())=some (if(du a&&du b&&du c)=true then .inl (0,0,0,[],(aW a:Int),(aW b:Int),(aW c:Int),t,())else .inr (0,0,0,[],())):=by
 have step:∀(k:Nat) w (x y z),[a,b,c][k]? =some w->k<3->tB ([a,b,c],3,k,0,0,0,[],x,y,z,t,())=
   (if du w=true then(if k=2 then some (.inl ([a,b,c],3,((k+1):Int),0,0,0,[],x,y,(aW w),t,()))else if k=1 then some (.inl ([a,b,c],3,((k+1:Nat):Int),0,0,0,[],x,(aW w),z,t,()))else some (.inl ([a,b,c],3,((k+1:Nat):Int),0,0,0,[],(aW w),y,z,t,())))else some (.inr (.inr (0,0,0,[],())))):=λk w x y z hw hk=>by
  have D:ag [a,b,c] k=some w:=by rw[aaN,hw]
  simp[tB,dY (show(k:Int)<3 by omega),D,ah1,xl]
  cases M:du w with
  |false=>rfl
  |true=>
   simp only[if_true];by_cases h2:k=2
   ·simp (disch:=omega) only[K0]
   ·simp only[K0];by_cases h1:k=1
    ·simp (disch:=omega) only[K0]
    ·simp (disch:=omega) only[K0]
 have F:=step 0 a 0 0 0 rfl (by simp)
 rw[bI];rw[show tB ([a,b,c],3,0,0,0,0,[],0,0,0,t,())=_ from F]
 cases J:du a with
 |false=>rfl
 |true=>
  simp only[if_true,show¬0=2 by decide,show¬0=1 by decide,if_false]
  rw[bI,show tB ([a,b,c],3,((0+1:Nat):Int),0,0,0,[],(aW a),0,0,t,())=_ from step 1 b _ _ _ rfl (by simp)]
  cases L:du b with
  |false=>rfl
  |true=>
   simp only[if_true,show¬1=2 by decide,if_false]
   rw[bI,show tB ([a,b,c],3,((1+1:Nat):Int),0,0,0,[],(aW a),(aW b),0,t,())=_ from step 2 c _ _ _ rfl (by simp)]
   cases hc:du c with
   |false=>rfl
   |true=>simp[if_true];rw[bI];rfl
theorem Qc(s:aa)(hs:s.length<=20000):vT s=some (jG s):=by
 have h1:(s.take (al bG s 0)).length<=20000:=by rw[aw7];omega
 have h2:(s.drop (al bG s 0+1)).length<=20000:=by rw[ay3];omega
 have fin:∀g,g=true->(if((!decide (al bG s 0<s.length)||preB (s.drop (al bG s 0+1))))=true then True else False)->
   (bif !decide (((aw 46 (s.take (al bG s 0))).length:Int)=3)then some (((0,0,0),[]),false)
    else(ae tB (aw 46 (s.take (al bG s 0)),((aw 46 (s.take (al bG s 0))).length),0,0,0,0,[],0,0,0,s.drop (al bG s 0+1),())).bind λo=>match o with
     |.inl (ah,an,ar,az,J,L,M,N,_)=>some (((J,L,M),N),true)
     |.inr (O,U,Y,Z,_)=>some (((O,U,Y),Z),false))=some (jG s):=λg hg hA=>by
  have hA:(!decide (al bG s 0<s.length)||preB (s.drop (al bG s 0+1)))=true:=by
   cases h:(!decide (al bG s 0<s.length)||preB (s.drop (al bG s 0+1)))with
   |true=>rfl
   |false=>rw[h]at hA;exact hA.elim
  unfold jG cr aO;rw[hA];by_cases D:(aw 46 (s.take (al bG s 0))).length=3
  ·obtain⟨a,b,c,F⟩:=three D;rw[F];rw[show(([a,b,c].length):Int)=3 from rfl,ahF]
   have e:[a,b,c].all du=(du a&&du b&&du c):=by simp[aF9]
   rw[e];cases(du a&&du b&&du c)<;>rfl
  ·simp (disch:=omega) only[K0];rfl
 unfold vT;simp only[as3 s hs,at0];by_cases hm:al bG s 0<s.length
 ·rw[dY hm]at fin⊢;simp only[Xc _ h2];cases hp:preB (s.drop (al bG s 0+1))with
  |false=>unfold jG cr;rw[dY hm,hp];rfl
  |true=>simp only[LZ _ h1];exact fin true rfl (by grind)
 ·rw[dN hm]at fin⊢;simp only[LZ _ h1];exact fin true rfl trivial
theorem al0(c:UInt8)(t:aa):aw c (c::t)=[]::aw c t:=by rw[aw,if_pos rfl]
def as7(p:aa):ak->ak
 |h::r=>(p++h)::r
 |[]=>[p]
theorem Yu(c:UInt8)(p q:aa)(hp:∀b∈p,b≠c):aw c (p++q)=as7 p (aw c q):=by
 induction p with
 |nil=>
  rw[List.nil_append];cases h:aw c q with
  |nil=>exact absurd h (mR c q)
  |cons a r=>rfl
 |cons b t D=>
  have D:=D (λx F=>hp x (ax5 _ F));rw[List.cons_append,aw,if_neg (hp b aw4),D];cases h:aw c q with
  |nil=>exact absurd h (mR c q)
  |cons a r=>rfl
theorem akK(c:UInt8)(p:aa)(hp:∀b∈p,b≠c):aw c p=[p]:=by have:=Yu c p [] hp;rw[aw5]at this;rw[this];show[p++[]]=[p];rw[aw5]
theorem akm(s:aa)(hs:s.length<=20000)(c:UInt8):∀(n i fr:Nat) (out:ak),s.length-i=n->i<=s.length->fr<=i->out.length<=fr->(∀b∈(s.take i).drop fr,b≠c)->
  ∃(D:Nat) (J:ak),ae zN (s,(c.toNat:Int),(fr:Int),(i:Int),out,())=some (s,(D:Int),J,())/\D<=s.length/\J.length<=D/\J++[s.drop D]=out++aw c (s.drop fr):=by
 intro n
 induction n with
 |zero=>
  intro i fr out hn Z hf L hc;have e:i=s.length:=by omega
  subst e;refine⟨fr,out,?_,hf,L,?_⟩
  ·rw[bI];simp[zN]
  ·rw[ax6]at hc;rw[akK c _ hc]
 |succ n N=>
  intro i fr out hn Z hf L hc;have M:i<s.length:=by omega
  rw[bI];have ah:s.drop fr=(s.take i).drop fr++s.drop i:=by rw[<-List.drop_append_of_le_length (by grind),ax4]
  by_cases F:s[i]=c
  ·have Y:((s[i]).toNat)=c.toNat:=by rw[F]
   simp[zN];simp (disch:=omega) only[K0];obtain⟨D,J,h1,h2,O,U⟩:=N (i+1) (i+1) (out++[(s.take i).drop fr]) (by omega) (by omega) (at9 _) (by grind) (λb F=>by rw[az3 (by grind)]at F;cases F)
   refine⟨D,J,h1,h2,O,?_⟩;rw[U,ah,av6 M,F,Yu c _ _ hc,al0];show(out++[(s.take i).drop fr])++aw c (s.drop (i+1))=out++(((s.take i).drop fr++[])::aw c (s.drop (i+1)));grind
  ·have Y:¬((s[i]).toNat)=c.toNat:=λe=>F (UInt8.toNat_inj.1 (by omega))
   simp (disch:=omega) only[K0,zN];refine N (i+1) fr out (by omega) (by omega) (by omega) L (λb hm=>?_)
   rw[List.take_succ_eq_append_getElem M]at hm;grind
theorem Ra(s:aa)(hs:s.length<=20000)(c:UInt8):qy s (c.toNat:Int)=some (aw c s):=by
 obtain⟨fr,out,h1,h2,J,D⟩:=akm s hs c s.length 0 0 [] rfl (au2 _) (at9 _) (at9 _) (λb F=>by cases F)
 have h1:ae zN (s,c.toNat,0,0,[],())=some (s,(fr:Int),out,()):=h1;simp[qy,h1];simp (disch:=omega) only[K0,D];rfl
theorem YC(s:aa)(hs:s.length<=20000):qy s 46=some (aw 46 s):=Ra s hs 46
theorem ai1(x:aa)(J:x.length<=20000)(a b c:Int):ae D5 (x,0,a,b,c,())=some (x,(al bG x 0:Int),a,b,c,()):=by
 refine rL (λk=>(x,(k:Int),a,b,c,())) (λk=>(x,(k:Int),a,b,c,())) bG x (λk hk hp=>?_) (λk hk hp=>?_) 0 (au2 _)
 ·have F:¬(((x[k]).toNat)=45):=by
    rw[fA hk];unfold bG at hp;grind
  simp (disch:=omega) only[K0,D5]
 ·by_cases D:k<x.length
  ·have F:((x[k]).toNat)=45:=by
     have:=hp D;rw[fA D];unfold bG at this;have:dQ x k=45:=by grind
     omega
   simp (disch:=omega) only[K0,D5]
  ·grind[D5]
def pE(s:aa):ak:=if al bG s 0<s.length then aw 46 (s.drop (al bG s 0+1))else[]
theorem Xd(l:ak)(D:∀p∈l,p.length<=20000)(F:l.length<=20001)(a b c:Int):ae v7 (0,0,0,0,a,b,c,l,())=some (if l.all gD=true then .inl (0,0,0,a,b,c,l,())else .inr (0,0,0,())):=by
 refine lz l gD (λk=>((k:Int),0,0,0,a,b,c,l,())) _ _ (λk h hp=>?_) (λk h hp=>?_) ?_
 ·simp (disch:=omega) only[K0,v7,X1 _ (D _ (at2 h)),hp]
 ·simp (disch:=omega) only[K0,v7,X1 _ (D _ (at2 h)),hp]
 ·simp[v7]
def pB(s:aa):Int×Int×Int×ak:=((aO s).1.1,(aO s).1.2.1,(aO s).1.2.2,pE s)
theorem DK(s:aa)(hs:s.length<=20000):rP s=some (if cr s=true then(pB s,true)else((0,0,0,[]),false)):=by
 have hle:al bG s 0<=s.length:=r5 _ _ _ (au2 _);have h1:(s.take (al bG s 0)).length<=20000:=by rw[aw7];omega
 have h2:(s.drop (al bG s 0+1)).length<=20000:=by rw[ay3];omega
 unfold rP;simp only[ai1 s hs];simp only[K0];rw[show(s.take (al bG s 0)).drop (0:Int).toNat=s.take (al bG s 0) from rfl,YC _ h1,at0]
 by_cases J:(aw 46 (s.take (al bG s 0))).length=3
 ·obtain⟨a,b,c,F⟩:=three J;obtain⟨na,N,va⟩:=Qr a;obtain⟨nb,O,vb⟩:=Qr b;obtain⟨nc,U,vc⟩:=Qr c;have L:aO s=(((aW a:Int),(aW b:Int),(aW c:Int)),s.drop (al bG s 0+1)):=by unfold aO;rw[F]
  have hO:cr s=((!decide (al bG s 0<s.length)||preB (s.drop (al bG s 0+1)))&&(du a&&du b&&du c)):=by unfold cr;rw[F];simp only[ay4,List.all_nil,aD4,aF9];rfl
  rw[F];rw[show(ag [a,b,c] 0)=some a from rfl,show(ag [a,b,c] 1)=some b from rfl,show(ag [a,b,c] 2)=some c from rfl]
  simp only[show((([a,b,c].length:Nat):Int))=3 from rfl]
  simp only[at0,N,O,U];rw[hO];cases Y:du a with
  |false=>simp (disch:=omega) only[K0];rfl
  |true=>
   cases Z:du b with
   |false=>simp (disch:=omega) only[K0];rfl
   |true=>
    cases hc:du c with
    |false=>simp (disch:=omega) only[K0];rfl
    |true=>
     simp only[aD4];rw[va Y,vb Z,vc hc];by_cases hm:al bG s 0<s.length
     ·have D:pE s=aw 46 (s.drop (al bG s 0+1)):=by unfold pE;rw[if_pos hm]
      obtain⟨q1,q2⟩:=mN 46 (s.drop (al bG s 0+1));simp (disch:=omega) only[K0];simp[aS];simp only[YC _ h2];unfold preB;by_cases h4:4<(aw 46 (s.drop (al bG s 0+1))).length
      ·simp (disch:=omega) only[K0];rfl
      ·simp (disch:=omega) only[K0];simp only[Xd _ (λp hp=>by have:=q1 p hp;omega) (by omega)]
       unfold pB;rw[D,L];cases(aw 46 (s.drop (al bG s 0+1))).all gD<;>rfl
     ·have D:pE s=[]:=by unfold pE;rw[if_neg hm]
      simp (disch:=omega) only[K0];have M:ae v7 (0,0,0,0,(aW a),(aW b),(aW c),[],())=_:=Xd [] (λp hp=>by cases hp) (by simp) _ _ _
      simp only[M];unfold pB;rw[D,L];rfl
 ·simp (disch:=omega) only[K0];have:cr s=false:=by unfold cr;rw[dN J,aD5];rfl
  rw[this];rfl
def aK(a b:Int):Int:=if a<b then-1 else if b<a then 1 else 0
theorem v8(a b:Int):rT a b=some (aK a b):=by grind[rT,aK]
theorem zC(a b:Int):mM a b=some (aK a b):=by grind[mM,cmp_isNaN_int,aK]
theorem DE(a b:aa):rG a b=some (cI a b):=by grind[rG,cmp_isNaN_string,cI]
def bY{α:Type}(q:α->α->Int):List α->List α->Int
 |x::s,y::t=>if q x y=0 then bY q s t else q x y
 |_,_=>0
theorem Aa{V R α:Type}{f:V->Option (V⊕R)}(l m:List α)(q:α->α->Int)(st:Nat->V)(z:R)(o:Int->R)
  (h1:∀k (h:k<l.length) (h':k<m.length),f (st k)=if q l[k] m[k]=0 then some (.inl (st (k+1)))else some (.inr (o (q l[k] m[k]))))
  (h2:∀k,k<=l.length->k<=m.length->(k=l.length\/k=m.length)->f (st k)=some (.inr z)):ae f (st 0)=some (if bY q l m=0 then z else o (bY q l m)):=by
 have:∀n k,l.length-k=n->k<=l.length->k<=m.length->ae f (st k)=some (if bY q (l.drop k) (m.drop k)=0 then z else o (bY q (l.drop k) (m.drop k))):=by
  intro n
  induction n with
  |zero=>grind[bY,bI]
  |succ n L=>
   intro k J hk hm;rw[bI];by_cases D:k<m.length
   ·have F:k<l.length:=by omega
    rw[h1 k F D,av6 F,av6 D];have e:bY q (l[k]::l.drop (k+1)) (m[k]::m.drop (k+1))=if q l[k] m[k]=0 then bY q (l.drop (k+1)) (m.drop (k+1))else q l[k] m[k]:=rfl
    grind
   ·grind[bY]
 simp_all
def gl(a b:aa):Int:=
 if(a.all bJ&& !b.all bJ)=true then-1 else if(b.all bJ&& !a.all bJ)=true then 1
 else if a.all bJ=true/\a.length≠b.length then aK a.length b.length else cI a b
theorem aih(a b:aa)(D:a.length<=1000000000)(F:b.length<=1000000000):JW a b=some (gl a b):=by grind[JW,gl,tE,strings_Compare,zC]
def nh(a b:ak):Int:=if bY gl a b=0 then aK a.length b.length else bY gl a b
theorem aiu(a b:ak)(J:a.length<=20001)(D:∀p∈a,p.length<=1000000000)(F:∀p∈b,p.length<=1000000000):J6 a b=some (nh a b):=by
 have h:ae JL (a,b,0,())=some (if bY gl a b=0 then .inl (a,b,())else .inr (bY gl a b,())):=by
  refine Aa a b gl (λk=>(a,b,(k:Int),())) _ (λx=>au8 (x,())) (λk h h'=>?_) (λk h h' he=>?_)
  ·simp (disch:=omega) only[K0,JL,aih _ _ (D _ (at2 h)) (F _ (at2 h'))];grind
  ·grind[JL]
 unfold J6 nh;rw[h];by_cases e:bY gl a b=0
 ·rw[if_pos e,if_pos e];simp[zC]
 ·grind
theorem Td{a b c d:Int}(h1:a<b<->c<d)(h2:b<a<->d<c):aK a b=aK c d:=by grind[aK]
def gS(x y:UInt8):Int:=aK x.toNat y.toNat
theorem ab7(y:UInt8)(t:aa):cI [] (y::t)= -1:=rfl
theorem ab9(x:UInt8)(s:aa):cI (x::s) []=1:=rfl
theorem Ml(x y:UInt8)(s t:aa):cI (x::s) (y::t)=if gS x y=0 then cI s t else gS x y:=by
 unfold cI gS aK;rw[show Op.bytesLess (x::s) (y::t)=(decide (x<y)||(x==y&&Op.bytesLess s t)) from rfl]
 by_cases h1:x<y
 ·have D:x.toNat<(y.toNat:Int):=Int.ofNat_lt.2 (UInt8.lt_iff_toNat_lt.1 h1);grind
 ·have D:¬x.toNat<(y.toNat:Int):=λg=>h1 (UInt8.lt_iff_toNat_lt.2 (Int.ofNat_lt.1 g));simp (disch:=omega) only[K0];by_cases h2:x=y
  ·grind
  ·have F:y.toNat<x.toNat:=by
     have:¬x.toNat=y.toNat:=λe=>h2 (UInt8.toNat_inj.1 e);omega
   grind
theorem ab8:∀(a b:aa),cI a b=if bY gS a b=0 then aK a.length b.length else bY gS a b:=by
 intro a
 induction a with
 |nil=>
  intro b;cases b with
  |nil=>rfl
  |cons y t=>
   rw[ab7,show bY gS [] (y::t)=0 from rfl,if_pos rfl]
   unfold aK;rw[if_pos (by simp only[ay2,av1];omega)]
 |cons x s D=>
  intro b;cases b with
  |nil=>
   rw[ab9,show bY gS (x::s) []=0 from rfl,if_pos rfl]
   unfold aK;rw[if_neg (by simp only[ay2,av1];omega),if_pos (by simp only[ay2,av1];omega)]
  |cons y t=>
   rw[Ml,show bY gS (x::s) (y::t)=if gS x y=0 then bY gS s t else gS x y from rfl]
   by_cases h:gS x y=0
   ·rw[if_pos h,if_pos h,D t];have:aK (s.length:Int) (t.length:Int)=aK ((x::s).length:Int) ((y::t).length:Int):=by refine Td ?_ ?_<;>simp only[av1]<;>omega
    rw[this]
   ·rw[if_neg h,if_neg h,if_neg h]
theorem y8(a b:aa)(D:a.length<=20000):qo a b=some (cI a b):=by
 have h:ae Ks (a,b,0,())=some (if bY gS a b=0 then .inl (a,b,())else .inr (bY gS a b,())):=by
  refine Aa a b gS (λk=>(a,b,(k:Int),())) _ (λx=>au8 (x,())) (λk h h'=>?_) (λk h h' he=>?_)
  ·have F:av4 .i64 ((a[k]).toNat)=((a[k]).toNat):=wrap_i64 (by have:=(a[k]).toNat_lt;omega)
   have J:av4 .i64 ((b[k]).toNat)=((b[k]).toNat):=wrap_i64 (by have:=(b[k]).toNat_lt;omega)
   simp (disch:=omega) only[K0,Ks,v8];grind[gS,aK]
  ·grind[Ks]
 unfold qo;rw[h,ab8];by_cases e:bY gS a b=0
 ·rw[if_pos e,if_pos e];simp[v8]
 ·grind
theorem amK(s:aa):∀n,s.foldl kS n=n*10^s.length+aW s:=by
 induction s with
 |nil=>intro n;simp [aW]
 |cons c t D=>
  intro n;have h0:aW (c::t)=(c.toNat-48)*10^t.length+aW t:=by unfold aW;rw[aB3,D];unfold kS;rw[Nat.zero_mul,ax2];rfl
  rw[aB3,D,h0];unfold kS;rw[av1,aC0,aA0,Nat.mul_assoc,Nat.mul_comm 10,Nat.add_assoc]
theorem Lf(c:UInt8)(t:aa):aW (c::t)=(c.toNat-48)*10^t.length+aW t:=by show(c::t).foldl kS 0=_;rw[aB3,amK];unfold kS;rw[ax2]
theorem FE:∀(s:aa),s.all bJ=true->aW s<10^s.length:=by
 intro s
 induction s with
 |nil=>intro _;decide
 |cons c t D=>
  intro h;rw[ay4,au0]at h;have h1:=nV h.1;have h2:=D h.2;rw[Lf,av1];have:(c.toNat-48)*10^t.length<=9*10^t.length:=az8 _ (by omega)
  omega
theorem abG{c:UInt8}{t:aa}(h:(c::t).all bJ=true)(hc:c≠48):10^t.length<=aW (c::t):=by
 rw[ay4,au0]at h;have h1:=nV h.1;have:c.toNat≠48:=λe=>hc (UInt8.toNat_inj.1 e);rw[Lf];have:1*10^t.length<=(c.toNat-48)*10^t.length:=az8 _ (by omega)
 omega
theorem apz:∀(a b:aa),a.all bJ=true->b.all bJ=true->a.length=b.length->aK (aW a) (aW b)=cI a b:=by
 intro a
 induction a with
 |nil=>intro b _ _ J;have:b=[]:=az2.1 J.symm;subst this;rfl
 |cons x s M=>
  intro b F D J;cases b with
  |nil=>grind
  |cons y t=>
   have ah:=D;rw[ay4,au0]at F D;have L:=Nat.succ.inj J;have M:=M t F.2 D.2 L;have h1:=nV F.1;have h2:=nV D.1;have Y:=FE s F.2;have O:=FE t D.2;rw[Ml,Lf,Lf,<-L];rw[<-L]at O;unfold gS;by_cases Z:x.toNat<y.toNat
   ·have:(x.toNat-48+1)*10^s.length<=(y.toNat-48)*10^s.length:=az8 _ (by omega)
    rw[aA0]at this;have N:aK x.toNat y.toNat= -1:=by unfold aK;omega
    simp (disch:=omega) only[K0,aK]
   ·by_cases e2:y.toNat<x.toNat
    ·have:(y.toNat-48+1)*10^s.length<=(x.toNat-48)*10^s.length:=az8 _ (by omega)
     grind[aK]
    ·have U:x.toNat=y.toNat:=by omega
     have N:aK x.toNat y.toNat=0:=by unfold aK;omega
     rw[N,<-M,U];refine Td ?_ ?_<;>omega
theorem aap{a b:aa}(D:a.all bJ=true)(F:b.all bJ=true)(J:gQ b=true)(N:a.length<b.length)(h0:0<a.length):aW a<aW b:=by
 cases b with
 |nil=>grind
 |cons y t=>
  have L:y≠48:=λe=>by subst e;rw[Lj (s:=48::t) (by omega) rfl]at J;grind
  have:=abG F L;have h2:=FE a D;have M:10^a.length<=10^t.length:=aA8 (by simp) (by grind)
  omega
theorem X5{a:aa}(h:gD a=true):1<=a.length/\a.length<=8/\(a.all bJ=true->gQ a=true):=by grind[gD,gQ]
theorem akk(a b:aa)(N:gD a=true)(O:gD b=true):Ld a b=some (gl a b):=by
 obtain⟨L,a2,a3⟩:=X5 N;obtain⟨b1,b2,M⟩:=X5 O;unfold Ld gl;rw[Qs a (by omega),Qs b (by omega)]
 simp only[at0];cases D:a.all bJ<;>cases F:b.all bJ
 ·simp[y8 a b (by omega)]
 ·rfl
 ·rfl
 ·have Y:cC a=true:=by unfold cC;rw[dY L,dY (by omega),a3 D,D];rfl
  have Z:cC b=true:=by unfold cC;grind
  simp only[cond_true,vU,Y,Z,if_true,at0,v8,av2,az4,av7,if_false,true_and];by_cases J:a.length=b.length
  ·rw[if_neg (λg=>g J),apz a b D F J]
  ·rw[if_pos J];by_cases U:a.length<b.length
   ·have:=aap D F (M F) U (by omega)
    grind[aK]
   ·have:=aap F D (a3 D) (by omega) (by omega)
    grind[aK]
theorem ig{a b:Int}:aK a b=0<->a=b:=by grind[aK]
theorem am2(x:UInt8):gS x x=0:=ig.2 rfl
theorem Ln:∀(a:aa),cI a a=0
 |[]=>rfl
 |x::s=>by rw[Ml,if_pos (am2 x),Ln s]
theorem alj(a:aa):gl a a=0:=by unfold gl;rw[Bool.and_not_self,if_neg aG0,if_neg aG0,if_neg (λh=>h.2 rfl),Ln]
theorem QH{α:Type}{q:α->α->Int}(h:∀x,q x x=0):∀(l:List α),bY q l l=0
 |[]=>rfl
 |x::t=>by rw[show bY q (x::t) (x::t)=if q x x=0 then bY q t t else q x x from rfl,if_pos (h x),QH h t]
theorem Rf(l:ak):nh l l=0:=by unfold nh;rw[if_pos (QH alj l)];exact ig.2 rfl
def jj(v:cN):List Int:=[v.1.1,v.1.2.1,v.1.2.2]
def eL(a b:cN):Int:=
 if bY aK (jj a) (jj b)=0 then(if a.2=b.2 then 0 else if a.2=[]then 1 else if b.2=[]then-1 else nh (aw 46 a.2) (aw 46 b.2))
 else bY aK (jj a) (jj b)
theorem Je(a b:cN)(N:a.2.length<=20000)(O:b.2.length<=20000):tC a b=some (eL a b):=by
 obtain⟨⟨D,a2,a3⟩,ap⟩:=a;obtain⟨⟨F,J,L⟩,M⟩:=b
 have h:ae yI (0,D,a2,a3,ap,F,J,L,M,())=some (if bY aK [D,a2,a3] [F,J,L]=0 then .inl (D,a2,a3,ap,F,J,L,M,())else .inr (bY aK [D,a2,a3] [F,J,L],())):=by
  refine Aa [D,a2,a3] [F,J,L] aK (λk=>((k:Int),D,a2,a3,ap,F,J,L,M,())) _ (λx=>au8 (x,())) (λk h h'=>?_) (λk h h' he=>?_)
  ·have n20:¬(0:Int)=(2:Int):=by decide
   have n10:¬(0:Int)=(1:Int):=by decide
   have n21:¬(1:Int)=(2:Int):=by decide
   match k,h with
   |0,_=>
    simp only[yI,if_true,zC,at0,aG1];by_cases e:aK D F=0
    ·rw[if_pos e];simp (disch:=omega) only[K0]
    ·rw[dN e,if_neg e];rfl
   |1,_=>
    simp only[yI,if_true,zC,at0,aG1,List.getElem_cons_succ];by_cases e:aK a2 J=0
    ·rw[if_pos e];simp (disch:=omega) only[K0]
    ·rw[dN e,if_neg e];rfl
   |2,_=>
    simp only[yI,if_true,zC,at0,aG1,List.getElem_cons_succ];by_cases e:aK a3 L=0
    ·rw[if_pos e];simp (disch:=omega) only[K0]
    ·rw[dN e,if_neg e];rfl
   |k+3,h=>exact absurd h (by simp)
  ·have U:k=3:=by rcases he with h|h<;>exact h
   subst U;simp (disch:=omega) only[K0,yI]
 unfold tC eL jj;simp[]at N O;simp[h];by_cases e:bY aK [D,a2,a3] [F,J,L]=0
 ·rw[if_pos e];by_cases Y:ap=M
  ·simp (disch:=omega) only[K0]
  ·simp only[K0];by_cases Z:ap=[]
   ·simp (disch:=omega) only[K0]
   ·simp (disch:=omega) only[K0];by_cases U:M=[]
    ·simp (disch:=omega) only[K0]
    ·have:=(mN 46 ap).2;simp (disch:=omega) only[K0,LZ _ N,LZ _ O,aiu _ _ (show(aw 46 ap).length<=20001 by omega) (λp hp=>by have:=(mN 46 ap).1 p hp;have:ap.length<=20000:=N;omega) (λp hp=>by have:=(mN 46 M).1 p hp;have:M.length<=20000:=O;omega)]
 ·rw[if_neg e,if_neg e]
abbrev ND:=Int×Int×Int×ak
theorem Xe(x y:ND)(Y:∀p∈x.2.2.2,gD p=true)(Z:∀p∈y.2.2.2,gD p=true)(lx:x.2.2.2.length<=20001)(ly:y.2.2.2.length<=20001):
  tI x y=some (if bY aK [x.1,x.2.1,x.2.2.1] [y.1,y.2.1,y.2.2.1]=0 then
   (if x.2.2.2=[]then(if y.2.2.2=[]then 0 else 1)else if y.2.2.2=[]then-1 else nh x.2.2.2 y.2.2.2)else bY aK [x.1,x.2.1,x.2.2.1] [y.1,y.2.1,y.2.2.1]):=by
 obtain⟨F,a2,a3,ap⟩:=x;obtain⟨J,L,M,D⟩:=y;simp[]at Y Z lx ly⊢
 have h:ae J3 ([F,a2,a3],[J,L,M],0,F,a2,a3,ap,J,L,M,D,())=some (if bY aK [F,a2,a3] [J,L,M]=0 then .inl (F,a2,a3,ap,J,L,M,D,())else .inr (bY aK [F,a2,a3] [J,L,M],())):=by
  refine Aa [F,a2,a3] [J,L,M] aK (λk=>([F,a2,a3],[J,L,M],(k:Int),F,a2,a3,ap,J,L,M,D,())) _ (λx=>au8 (x,())) (λk h h'=>?_) (λk h h' he=>?_)
  ·have hk:k<3:=h;simp (disch:=omega) only[K0,J3,v8];by_cases e:[F,a2,a3][k]=[J,L,M][k]
   ·rw[if_pos (ig.2 e)];simp (disch:=omega) only[K0]
   ·rw[dN e,if_neg (λg=>e (ig.1 g))];rfl
  ·have e3:k=3:=by rcases he with h|h<;>exact h
   subst e3;simp (disch:=omega) only[K0,J3]
 unfold tI;simp only[h,at0];by_cases e:bY aK [F,a2,a3] [J,L,M]=0
 ·rw[if_pos e];simp only[];by_cases U:ap=[]
  ·subst U;rw[dY (show(([].length:Nat):Int)=0 from rfl)]
   simp only[v8,at0];rw[ai (ba (by omega))]
   by_cases N:D=[]
   ·subst N;simp (disch:=omega) only[K0];rfl
   ·have:0<D.length:=ay5.2 N;have o:aK D.length ((0:Nat):Int)=1:=by unfold aK;simp (disch:=omega) only[K0]
    simp (disch:=omega) only[K0,o];rfl
  ·have l1:=ay5.2 U;rw[dN (show¬(ap.length:Int)=0 by omega)]
   by_cases N:D=[]
   ·subst N;rw[dY (show(([].length:Nat):Int)=0 from rfl)]
    have o:aK ((([]:ak).length:Nat):Int) ap.length= -1:=by unfold aK;simp (disch:=omega) only[K0]
    simp only[v8,o];simp (disch:=omega) only[K0];rfl
   ·have l2:=ay5.2 N
    have h2:ae DA (0,F,a2,a3,ap,J,L,M,D,())=some (if bY gl ap D=0 then .inl (F,a2,a3,ap,J,L,M,D,())else .inr (bY gl ap D,())):=by
     refine Aa ap D gl (λk=>((k:Int),F,a2,a3,ap,J,L,M,D,())) _ (λx=>au8 (x,())) (λk h h'=>?_) (λk h h' he=>?_)
     ·simp (disch:=omega) only[K0,DA,akk _ _ (Y _ (at2 h)) (Z _ (at2 h'))];by_cases e:gl ap[k] D[k]=0
      ·rw[if_pos e];simp (disch:=omega) only[K0]
      ·rw[dN e,if_neg e];rfl
     ·by_cases hl:k<ap.length
      ·simp (disch:=omega) only[K0,DA]
      ·simp (disch:=omega) only[K0,DA]
    simp (disch:=omega) only[K0];simp only[K0,h2];unfold nh;by_cases O:bY gl ap D=0
    ·rw[if_pos O,if_pos O];simp[v8]
    ·rw[if_neg O,if_neg O]
 ·rw[if_neg e,if_neg e]
theorem Ry{s:aa}(h:cr s=true)(hm:al bG s 0<s.length):preB (s.drop (al bG s 0+1))=true:=by grind[cr]
theorem QM{s:aa}(h:cr s=true):∃a b c,aw 46 (s.take (al bG s 0))=[a,b,c]/\du a=true/\du b=true/\du c=true:=by unfold cr at h;simp[decide_eq_true_eq]at h;obtain⟨a,b,c,D⟩:=three h.1.2;rw[D]at h;simp[List.all_nil]at h;exact⟨a,b,c,D,h.2.1,h.2.2.1,h.2.2.2⟩
theorem anc{s:aa}(h:cr s=true):(aO s).2=s.drop (al bG s 0+1):=by obtain⟨a,b,c,D,_⟩:=QM h;unfold aO;rw[D]
theorem Sf{t:aa}(h:preB t=true):∀p∈aw 46 t,gD p=true:=by grind[preB]
theorem Tc{s:aa}(h:cr s=true):pE s=if(aO s).2=[]then[]else aw 46 (aO s).2:=by
 rw[anc h];unfold pE;by_cases hm:al bG s 0<s.length
 ·rw[if_pos hm,if_neg];intro e;have:=Sf (Ry h hm);rw[e]at this;have:=this [] (by decide)
  cases this
 ·rw[if_neg hm,if_pos (az3 (by omega))]
theorem Zf{s:aa}(h:cr s=true):∀p∈pE s,gD p=true:=by
 unfold pE;by_cases hm:al bG s 0<s.length
 ·rw[if_pos hm];exact Sf (Ry h hm)
 ·grind
theorem aah{s:aa}(hs:s.length<=20000):(pE s).length<=20001:=by
 unfold pE;by_cases hm:al bG s 0<s.length
 ·rw[if_pos hm];have:=(mN 46 (s.drop (al bG s 0+1))).2;grind
 ·grind
theorem aiF{s t:aa}(hs:cr s=true)(J:cr t=true)(ls:s.length<=20000)(lt:t.length<=20000):tI (pB s) (pB t)=some (eL (aO s) (aO t)):=by
 rw[Xe (pB s) (pB t) (Zf hs) (Zf J) (aah ls) (aah lt)];unfold pB eL jj;simp[];rw[Tc hs,Tc J];by_cases e:bY aK [(aO s).1.1,(aO s).1.2.1,(aO s).1.2.2] [(aO t).1.1,(aO t).1.2.1,(aO t).1.2.2]=0
 ·rw[if_pos e,if_pos e];by_cases D:(aO s).2=[]
  ·rw[if_pos D,if_pos rfl];by_cases F:(aO t).2=[]
   ·grind
   ·rw[if_neg F,if_neg (mR _ _),if_neg (by grind),if_pos D]
  ·rw[if_neg D,if_neg (mR _ _)];by_cases F:(aO t).2=[]
   ·grind
   ·rw[if_neg F,if_neg (mR _ _)];by_cases L:(aO s).2=(aO t).2
    ·simp[L,Rf]
    ·grind
 ·omega
theorem Qy(op:Int):EM op=some (bW op):=by
 unfold EM bW;by_cases h1:op=1
 ·rw[dY h1,if_pos h1];rfl
 rw[dN h1,if_neg h1];by_cases h2:op=2
 ·rw[dY h2,if_pos h2];rfl
 rw[dN h2,if_neg h2];by_cases D:op=3
 ·rw[dY D,if_pos D];rfl
 rw[dN D,if_neg D];by_cases F:op=4
 ·rw[dY F,if_pos F];rfl
 rw[dN F,if_neg F];by_cases J:op=5
 ·rw[dY J,if_pos J];rfl
 rw[dN J,if_neg J];by_cases L:op=6
 ·rw[dY L,if_pos L];rfl
 rw[dN L,if_neg L];by_cases M:op=7
 ·rw[dY M,if_pos M];rfl
 rw[dN M,if_neg M];by_cases N:op=8
 ·rw[dY N,if_pos N];rfl
 rw[dN N,if_neg N];rfl
def iU(s p:aa):Bool:=decide (s.take p.length=p)
theorem XP(s p:aa)(hs:s.length<=20000):CM s p=some (iU s p):=by
 unfold CM iU;by_cases h:p.length<=s.length
 ·rw[dY (show(p.length:Int)<=s.length by omega)]
  simp_all;rfl
 ·have D:¬s.take p.length=p:=λe=>by
    grind
  grind
theorem QI(s p:aa)(hs:s.length<=20000):C8 s p=some (if iU s p=true then(s.drop p.length,true)else(s,false)):=by
 unfold C8 PT;rw[XP s p hs];cases h:iU s p with
 |false=>rfl
 |true=>
  have hle:p.length<=s.length:=by grind[iU]
  simp_all;rfl
theorem wo{V R α:Type}{f:V->Option (V⊕R)}(l:List α)(p:α->Bool)(st:Nat->V)(a:α->R)(b:R)
  (h1:∀k (h:k<l.length),p l[k]=false->f (st k)=some (.inl (st (k+1))))
  (h2:∀k (h:k<l.length),p l[k]=true->f (st k)=some (.inr (a l[k])))
  (F:f (st l.length)=some (.inr b)):ae f (st 0)=some ((l.find? p).elim b a):=by
 have:∀n k,l.length-k=n->k<=l.length->ae f (st k)=some (((l.drop k).find? p).elim b a):=by
  intro n
  induction n with
  |zero=>grind[bI]
  |succ n L=>
   intro k J hk;have D:k<l.length:=by omega
   rw[bI,av6 D];cases hp:p l[k]with
   |true=>grind
   |false=>grind
 grind
def uy(c:Nat):Bool:=decide (48<=c)&&decide (c<=57)
def da(s:aa):Nat:=al uy s 0
def ops:List Int:=[1,3,5,2,4,6,7,0]
def uG:List Int:=[0,1,2,3,4,5,6,7]
def mz(g:aa):Option Int:=uG.find? λop=>decide (g=bW op)
def eW(s:aa):Bool:=decide (s=[42])||match mz (s.take (da s))with
 |some _=>cr (s.drop (da s))
 |none=>false
def j4(s:aa):cY:=if s=[42]then(8,(0,0,0),[])else match mz (s.take (da s))with
 |some op=>(op,aO (s.drop (da s)))
 |none=>(0,(0,0,0),[])
theorem akL{c x:UInt8}{a:aa}{r:ak}:∀{l:aa},aw c l=(x::a)::r->∃t,l=x::t:=by
 intro l h;cases l with
 |nil=>cases h
 |cons b t=>grind[aw]
theorem Y2{s:aa}(h:cr s=true):∃c t,s=c::t/\48<=c.toNat/\c.toNat<=57:=by
 obtain⟨a,b,c,J,D,_,_⟩:=QM h;unfold du at D;simp only[au0]at D;cases a with
 |nil=>grind
 |cons x a=>
  obtain⟨t,L⟩:=akL J;have F:=D.2;rw[ay4,au0]at F;have F:=nV F.1;cases s with
  |nil=>grind
  |cons y s=>
   have:y=x:=by
    cases hk:al bG (y::s) 0 with
    |zero=>grind
    |succ k=>grind
   grind
theorem aoB{g r:aa}{c:UInt8}(D:∀b∈g,uy b.toNat=false)(hc:uy c.toNat=true):da (g++c::r)=g.length:=by simp_all[da,al]
theorem ama{op:Int}:∀b∈bW op,uy b.toNat=false:=by
 unfold bW;intro b D;split at D
 ·revert b;decide
 split at D
 ·revert b;decide
 split at D
 ·revert b;decide
 split at D
 ·revert b;decide
 split at D
 ·revert b;decide
 split at D
 ·revert b;decide
 split at D
 ·revert b;decide
 split at D
 ·revert b;decide
 ·revert b;decide
theorem E7{c:UInt8}:uy c.toNat=true<->48<=c.toNat/\c.toNat<=57:=by simp[uy]
theorem an3{op:Int}(h:op∈ops):mz (bW op)=some op:=by
 have D:∀op∈ops,mz (bW op)=some op:=by decide
 grind
theorem RF{g:aa}{op:Int}(h:mz g=some op):g=bW op/\op∈ops:=by
 unfold mz at h;have h1:=aE4 h;have D:∀op∈uG,op∈ops:=by decide
 grind
theorem apw{c:UInt8}(r:aa)(hc:uy c.toNat=true){op:Int}(h:op∈ops):ops.find? (λp=>iU (bW op++c::r) (bW p))=some op:=by
 have hc:=E7.1 hc;have n61:¬c=61:=λe=>by subst e;grind
 unfold ops at h⊢;simp[List.not_mem_nil]at h;rcases h with rfl|rfl|rfl|rfl|rfl|rfl|rfl|rfl<;>simp [iU,bW,n61]
theorem ap5{s:aa}{op:Int}(hf:ops.find? (λp=>iU s (bW p))=some op)(J:cr (s.drop (bW op).length)=true):da s=(bW op).length/\mz (s.take (da s))=some op:=by
 have h1:=List.find?_some hf;have h2:=aE4 hf;unfold iU at h1;have h1:=of_decide_eq_true h1;obtain⟨c,t,F,hc⟩:=Y2 J;have e:s=bW op++c::t:=by rw[<-F];have:=ax4 (bW op).length s;grind
 have D:da s=(bW op).length:=by rw[e];exact aoB ama (E7.2 hc)
 exact⟨D,by rw[D,h1];exact an3 h2⟩
theorem RS{s:aa}{op:Int}(F:mz (s.take (da s))=some op)(L:cr (s.drop (da s))=true):ops.find? (λp=>iU s (bW p))=some op/\da s=(bW op).length:=by
 obtain⟨h1,h2⟩:=RF F;obtain⟨c,t,J,hc⟩:=Y2 L;have e:s=bW op++c::t:=by rw[<-h1,<-J,ax4]
 have D:da s=(bW op).length:=by grind
 refine⟨?_,D⟩;have:=apw t (E7.2 hc) h2;grind
theorem XA(s:aa)(hs:s.length<=20000):∃x,K1 s=some (x,eW s)/\(eW s=true->x=j4 s):=by
 unfold K1;by_cases h:s=kN
 ·rw[dY h];have h':s=[42]:=h;have hO:eW s=true:=by unfold eW;rw[dY h'];rfl
  exact⟨_,by rw[hO];rfl,λ_=>by unfold j4;rw[if_pos h']⟩
 ·have h':¬s=[42]:=h;rw[dN h]
  have J:ae ze (s,ops,ops.length,0,0,0,0,0,[],())=some ((ops.find? (λp=>iU s (bW p))).elim (au6 (0,0,0,0,[],())) (λop=>au8 ((jG (s.drop (bW op).length)).2,op,(jG (s.drop (bW op).length)).1.1.1,(jG (s.drop (bW op).length)).1.1.2.1,(jG (s.drop (bW op).length)).1.1.2.2,(jG (s.drop (bW op).length)).1.2,()))):=by
   refine wo ops (λp=>iU s (bW p)) (λk=>(s,ops,(ops.length:Int),(k:Int),0,0,0,0,[],())) (λop=>au8 ((jG (s.drop (bW op).length)).2,op,(jG (s.drop (bW op).length)).1.1.1,(jG (s.drop (bW op).length)).1.1.2.1,(jG (s.drop (bW op).length)).1.1.2.2,(jG (s.drop (bW op).length)).1.2,())) (au6 (0,0,0,0,[],())) (λk h hp=>?_) (λk h hp=>?_) ?_
   ·have hk:k<8:=h;simp only[ze,dY (show(k:Int)<ops.length by show(k:Int)<8;omega),cond_true,aI h,Qy,at0,QI s _ hs,hp,av7,if_false,cond_false,aS,aC (show k+1<=4611686018427387904 by omega)]
   ·have hk:k<8:=h;simp only[ze,dY (show(k:Int)<ops.length by show(k:Int)<8;omega),aI h,Qy,at0,QI s _ hs,hp,if_true]
    rw[Qc _ (show(s.drop (bW ops[k]).length).length<=20000 by rw[ay3];omega)];rfl
   ·simp[ze]
  simp only[cond_false];rw[show ae ze (s,[1,3,5,2,4,6,7,0],(([1,3,5,2,4,6,7,0]:List (Int)).length:Int),0,0,0,0,0,[],())=_ from J,at0]
  cases hf:ops.find? (λp=>iU s (bW p))with
  |none=>
   refine⟨(0,(0,0,0),[]),?_,?_⟩
   ·have hO:eW s=false:=by
      cases hO:eW s with
      |false=>rfl
      |true=>
       exfalso;unfold eW at hO;rw[dN h']at hO;split at hO
       ·rename_i op D;have:=(RS D hO).1;rw[hf]at this;cases this
       ·cases hO
    rw[hO];rfl
   ·intro hO;exfalso;unfold eW at hO;rw[dN h']at hO;split at hO
    ·rename_i op D;have:=(RS D hO).1;rw[hf]at this;cases this
    ·cases hO
  |some op=>
   simp only[Option.elim_some];by_cases F:cr (s.drop (bW op).length)=true
   ·obtain⟨c1,c2⟩:=ap5 hf F;have hO:eW s=true:=by unfold eW;rw[dN h',c2];simp[];rw[c1];exact F
    simp_all[jG,j4]
   ·have hO:eW s=false:=by
      cases hO:eW s with
      |false=>rfl
      |true=>
       exfalso;unfold eW at hO;rw[dN h']at hO;split at hO
       ·rename_i M D;obtain⟨L,N⟩:=RS D hO;rw[hf]at L;grind
       ·cases hO
    simp_all[jG]
def bO(v:cN):ND:=(v.1.1,v.1.2.1,v.1.2.2,if v.2=[]then[]else aw 46 v.2)
theorem abn{s:aa}(h:cr s=true):pB s=bO (aO s):=by unfold pB bO;rw[Tc h]
abbrev adp:=Int×ND
def fK(c:cY):adp:=(c.1,bO c.2)
theorem XZ(k:Nat)(h:k<8):Sc (k:Int)=some (bW (k:Int)):=by
 match k,h with
 |0,_=>rfl
 |1,_=>rfl
 |2,_=>rfl
 |3,_=>rfl
 |4,_=>rfl
 |5,_=>rfl
 |6,_=>rfl
 |7,_=>rfl
 |k+8,h=>omega
theorem aan(k:Nat)(h:k<uG.length):uG[k]=(k:Int):=by
 match k,h with
 |0,_=>rfl
 |1,_=>rfl
 |2,_=>rfl
 |3,_=>rfl
 |4,_=>rfl
 |5,_=>rfl
 |6,_=>rfl
 |7,_=>rfl
 |k+8,h=>exact absurd h (by show¬k+8<8;omega)
theorem akj(s:aa)(hs:s.length<=20000):ae zM (s,0,0,0,0,0,())=some (s,(da s:Int),0,0,0,0,()):=by
 refine rL (λk=>(s,(k:Int),0,0,0,0,())) (λk=>(s,(k:Int),0,0,0,0,())) uy s (λk hk hp=>?_) (λk hk hp=>?_) 0 (au2 _)
 ·have F:¬(48<=(s[k]).toNat/\(s[k]).toNat<=57):=λg=>by
    rw[<-fA hk]at hp;rw[E7.2 g]at hp;grind
  by_cases c1:((s[k]).toNat)<48
  ·simp (disch:=omega) only[K0,zM]
  ·simp (disch:=omega) only[K0,zM]
 ·by_cases D:k<s.length
  ·have hp:=hp D;rw[<-fA D]at hp;have:=E7.1 hp;simp (disch:=omega) only[K0,zM]
  ·simp (disch:=omega) only[K0,zM]
def oc(s:aa):ND×Bool:=if cr s=true then(pB s,true)else((0,0,0,[]),false)
theorem YB(s:aa)(hs:s.length<=20000):∃x,L5 s=some (x,eW s)/\(eW s=true->x=fK (j4 s)):=by
 unfold L5;by_cases h:s=kN
 ·rw[dY h];have h':s=[42]:=h;have hO:eW s=true:=by unfold eW;rw[dY h'];rfl
  exact⟨_,by rw[hO];rfl,λ_=>by unfold j4;rw[if_pos h'];rfl⟩
 ·have h':¬s=[42]:=h;have L:da s<=s.length:=r5 _ _ _ (au2 _);have J:(s.drop (da s)).length<=20000:=by rw[ay3];omega
  have F:ae E3 (s,(da s),0,0,0,0,0,())=some ((uG.find? (λp=>decide (s.take (da s)=bW p))).elim (au6 (0,0,0,0,())) (λop=>au8 ((oc (s.drop (da s))).2,op,(oc (s.drop (da s))).1.1,(oc (s.drop (da s))).1.2.1,(oc (s.drop (da s))).1.2.2.1,(oc (s.drop (da s))).1.2.2.2,()))):=by
   refine wo uG (λp=>decide (s.take (da s)=bW p)) (λk=>(s,(da s:Int),(k:Int),0,0,0,0,())) (λop=>au8 ((oc (s.drop (da s))).2,op,(oc (s.drop (da s))).1.1,(oc (s.drop (da s))).1.2.1,(oc (s.drop (da s))).1.2.2.1,(oc (s.drop (da s))).1.2.2.2,())) (au6 (0,0,0,0,())) (λk h hp=>?_) (λk h hp=>?_) ?_
   ·have hk:k<8:=h;rw[aan k h]at hp;simp only[E3,XZ k hk];simp (disch:=omega) only[K0];rw[show decide ((s.take (da s)).drop (0:Int).toNat=bW k)=false from hp]
    simp only[K0]
   ·have hk:k<8:=h;rw[aan k h]at hp⊢;simp only[E3,XZ k hk];simp (disch:=omega) only[K0];rw[show decide ((s.take (da s)).drop (0:Int).toNat=bW k)=true from hp]
    simp[cond_true];simp only[DK _ J];rfl
   ·have:¬(uG.length:Int)<8:=by decide
    simp (disch:=omega) only[K0,E3]
  simp (disch:=omega) only[K0,akj s hs,F];have hO:eW s=match mz (s.take (da s))with|some _=>cr (s.drop (da s))|none=>false:=by unfold eW;grind
  have hC:j4 s=match mz (s.take (da s))with|some op=>(op,aO (s.drop (da s)))|none=>(0,(0,0,0),[]):=by unfold j4;grind
  have hf:uG.find? (λp=>decide (s.take (da s)=bW p))=mz (s.take (da s)):=rfl;rw[hf,hO,hC];cases mz (s.take (da s))with
  |none=>simp
  |some op=>
   simp only[Option.elim_some];cases D:cr (s.drop (da s))with
   |false=>exact⟨_,by unfold oc;rw[D];rfl,λg=>by cases g⟩
   |true=>exact⟨fK (op,aO (s.drop (da s))),by unfold oc;rw[D];simp[if_true];rw[abn D];rfl,λ_=>rfl⟩
theorem LN{V R α β:Type}{f:V->Option (V⊕R)}(l:List α)(ok:α->Bool)(val:α->β)(st:Nat->List β->V)(a:List β->R)(b:R)
  (h1:∀k (h:k<l.length) (out:List β),out.length=k->ok l[k]=true->f (st k out)=some (.inl (st (k+1) (out++[val l[k]]))))
  (h2:∀k (h:k<l.length) (out:List β),out.length=k->ok l[k]=false->f (st k out)=some (.inr b))
  (M:∀out:List β,f (st l.length out)=some (.inr (a out))):ae f (st 0 [])=some (if l.all ok=true then a (l.map val)else b):=by
 have:∀n k out,l.length-k=n->k<=l.length->out.length=k->ae f (st k out)=some (if(l.drop k).all ok=true then a (out++(l.drop k).map val)else b):=by
  intro n
  induction n with
  |zero=>
   intro k out J hk F;have e:k=l.length:=by omega
   simp_all[bI,List.map_nil]
  |succ n L=>
   intro k out J hk F;have D:k<l.length:=by omega
   rw[bI,av6 D,ay4];cases hp:ok l[k]with
   |true=>
    rw[h1 k D out F hp];show ae f (st (k+1) (out++[val l[k]]))=_;rw[L (k+1) (out++[val l[k]]) (by omega) (by omega) (by grind),aw9]
    rfl
   |false=>grind
 simp_all
def nu(s:aa):Bool:=decide ((aw 44 s).length<=4)&&(aw 44 s).all eW
def mB(s:aa):List cY:=(aw 44 s).map j4
def jB(s:aa):Bool:=decide (s.length<=80)&&decide ((aw 124 s).length<=4)&&(aw 124 s).all nu
def kH(s:aa):List (List cY):=(aw 124 s).map mB
theorem aqS(s:aa)(hs:s.length<=20000):strings_Split s T6=some (aw 44 s):=by grind[strings_Split,T6]
theorem ao2(s:aa)(hs:s.length<=20000):strings_Split s TI=some (aw 124 s):=by grind[strings_Split,TI]
theorem XU(s:aa)(hs:s.length<=20000):Lx s=some (if nu s=true then(mB s,true)else([],false)):=by
 obtain⟨N,O⟩:=mN 44 s;unfold Lx nu;simp[aqS s hs];by_cases M:4<(aw 44 s).length
 ·grind
 ·simp (disch:=omega) only[K0]
  have J:ae Ei (aw 44 s,((aw 44 s).length),0,[],())=some (if(aw 44 s).all eW=true then au6 ((aw 44 s).map j4,())else au8 ()):=by
   refine LN (aw 44 s) eW j4 (λk out=>(aw 44 s,((aw 44 s).length:Int),(k:Int),out,())) (λout=>au6 (out,())) (au8 ()) (λk h out L hp=>?_) (λk h out L hp=>?_) (λout=>?_)
   ·obtain⟨x,D,F⟩:=XA ((aw 44 s)[k]) (by grind)
    rw[hp]at D;have F:=F hp;subst F;simp[Ei,aI h,D];simp (disch:=omega) only[K0]
   ·obtain⟨x,D,F⟩:=XA ((aw 44 s)[k]) (by grind)
    simp (disch:=omega) only[K0,hp,Ei,D]
   ·simp[Ei]
  simp only[J];unfold mB;grind
theorem ajp(s:aa)(hs:s.length<=20000):Ej s=some (if jB s=true then(kH s,true)else([],false)):=by
 obtain⟨N,O⟩:=mN 124 s;unfold Ej jB;simp[ao2 s hs];by_cases M:80<s.length
 ·grind
 by_cases L:4<(aw 124 s).length
 ·grind
 ·simp (disch:=omega) only[K0]
  have F:ae DG (aw 124 s,((aw 124 s).length),0,[],())=some (if(aw 124 s).all nu=true then au6 ((aw 124 s).map mB,())else au8 ()):=by
   refine LN (aw 124 s) nu mB (λk out=>(aw 124 s,((aw 124 s).length:Int),(k:Int),out,())) (λout=>au6 (out,())) (au8 ()) (λk h out J hp=>?_) (λk h out J hp=>?_) (λout=>?_)
   ·have D:=XU ((aw 124 s)[k]) (by grind)
    simp (disch:=omega) only[K0,DG,D]
   ·have D:=XU ((aw 124 s)[k]) (by grind)
    simp_all;simp (disch:=omega) only[K0,DG,D]
   ·simp[DG]
  simp only[F];unfold kH;grind
theorem YD(s:aa)(hs:s.length<=20000):qy s 44=some (aw 44 s):=Ra s hs 44
theorem ale(s:aa)(hs:s.length<=20000):qy s 124=some (aw 124 s):=Ra s hs 124
theorem XH(s:aa)(hs:s.length<=20000):E2 s=some (if jB s=true then((kH s).map (λa=>a.map fK),true)else([],false)):=by
 obtain⟨U,l2⟩:=mN 124 s;unfold E2 jB;simp only[ale s hs];by_cases Z:80<s.length
 ·grind
 by_cases Y:4<(aw 124 s).length
 ·simp (disch:=omega) only[K0];rfl
 ·simp (disch:=omega) only[K0]
  have O:ae D3 (aw 124 s,0,[],())=some (if(aw 124 s).all nu=true then au6 ((aw 124 s).map (λp=>(mB p).map fK),())else au8 ()):=by
   refine LN (aw 124 s) nu (λp=>(mB p).map fK) (λk out=>(aw 124 s,(k:Int),out,())) (λout=>au6 (out,())) (au8 ()) (λk h out L hp=>?_) (λk h out L hp=>?_) (λout=>?_)
   all_goals try
    have M:((aw 124 s)[k]).length<=20000:=by have:=U _ (at2 h);omega
    obtain⟨m1,m2⟩:=mN 44 ((aw 124 s)[k])
    have J:ae D4 (aw 124 s,k,aw 44 ((aw 124 s)[k]),0,[],out,())=some (if(aw 44 ((aw 124 s)[k])).all eW=true then au6 (aw 124 s,(k:Int),(aw 44 ((aw 124 s)[k])).map (λx=>fK (j4 x)),out,())else au8 ()):=by
     refine LN (aw 44 ((aw 124 s)[k])) eW (λx=>fK (j4 x)) (λj o=>(aw 124 s,(k:Int),aw 44 ((aw 124 s)[k]),(j:Int),o,out,())) (λo=>au6 (aw 124 s,(k:Int),o,out,())) (au8 ()) (λj h o L hp=>?_) (λj h o L hp=>?_) (λo=>?_)
     ·obtain⟨x,D,F⟩:=YB ((aw 44 ((aw 124 s)[k]))[j]) (by grind)
      rw[hp]at D;have F:=F hp;subst F;simp only[D4,aI h,D];simp (disch:=omega) only[K0]
     ·obtain⟨x,D,F⟩:=YB ((aw 44 ((aw 124 s)[k]))[j]) (by grind)
      rw[hp]at D;simp (disch:=omega) only[K0,D4,D]
     ·simp[D4]
   ·unfold nu at hp;rw[au0]at hp;have N:=of_decide_eq_true hp.1;rw[if_pos hp.2]at J;simp only[D3,aI h,YD _ M,at0,J];simp (disch:=omega) only[K0];unfold mB;rw[aA1];rfl
   ·simp (disch:=omega) only[K0,D3,YD _ M];by_cases N:4<(aw 44 ((aw 124 s)[k])).length
    ·simp (disch:=omega) only[K0]
    ·have hc:¬(aw 44 ((aw 124 s)[k])).all eW=true:=λg=>by
       unfold nu at hp;simp (disch:=omega) only[K0,g]at hp;cases hp
     rw[if_neg hc]at J;simp (disch:=omega) only[K0,J]
   ·simp[D3]
  simp only[O];unfold kH;rw[aA1];cases(aw 124 s).all nu<;>rfl
abbrev aD:=Int×ak×List Int
def bD(L:aD):Prop:=L.2.1.length=L.2.2.length/\L.2.1.length<=20/\∀w∈L.2.1,1<=w.length/\w.length<=80
def bV(e l c:Int):Value:=.iface 295 (.agg #[.int .i64 e,.int .i64 l,.int .i64 c])
theorem fC(L:aD)(k:Nat):iZ (L,(k:Int))=some (decide (k<L.2.1.length),(L,(k:Int))):=by simp[iZ]
theorem me(L:aD)(D:bD L)(k:Nat)(h:k<L.2.1.length):dS (L,(k:Int))=some (.inl (L.2.1[k],(L,((k+1:Nat):Int)),())):=by have F:=D.2.1;unfold dS;simp only[fC];simp (disch:=omega) only[K0,show((k+1:Nat):Int)-1=k by omega]
theorem Aq(L:aD)(k:Nat)(h:¬k<L.2.1.length):dS (L,(k:Int))=some (.inr (bV 1 L.1 0,())):=by unfold dS;simp (disch:=omega) only[K0,fC];rfl
theorem asC(w:aa)(L:aD)(D:bD L)(k:Nat)(h:k<L.2.1.length)(hw:L.2.1[k]=w):yQ w (L,(k:Int))=some (true,(L,((k+1:Nat):Int))):=by have F:=D.2.1;unfold yQ;simp (disch:=omega) only[K0,fC]
theorem atb(w:aa)(L:aD)(F:bD L)(k:Nat)(h:∀h:k<L.2.1.length,¬L.2.1[k]=w):yQ w (L,(k:Int))=some (false,(L,(k:Int))):=by
 unfold yQ;by_cases D:k<L.2.1.length
 ·simp[fC,aI D,dN (h D)]
 ·grind[fC]
abbrev gT:=aD×Int×Int×Int×Int
theorem bn(o:gT):dJ o=some (decide (o.2.2.1=0),o):=rfl
theorem qq(L:aD)(D:bD L)(k:Nat)(f:Int×Int)(h:k<L.2.1.length):jz (L,(k:Int),0,f)=some (L.2.1[k],(L,((k+1:Nat):Int),0,f)):=by have F:=D.2.1;unfold jz;simp[bn];simp (disch:=omega) only[K0]
theorem abl(L:aD)(k:Nat)(f:Int×Int)(h:¬k<L.2.1.length):jz (L,(k:Int),0,f)=some ([],(L,(k:Int),1,L.1,0)):=by unfold jz;simp only[bn,at0,decide_true,av2,cond_false,dY (show(L.2.1.length:Int)<=k by omega),cond_true]
theorem ZZ(o:gT)(h:¬o.2.2.1=0):jz o=some ([],o):=by grind[jz,bn]
theorem Ff(n m:Int)(o:gT)(h:¬o.2.2.1=0):fy n m o=some o:=by grind[fy,bn]
theorem qt(o:gT)(h:¬o.2.2.1=0):ky o=some (false,o):=by grind[ky,bn]
theorem qn(L:aD)(k:Nat)(f:Int×Int):ky (L,(k:Int),0,f)=some (decide (k<L.2.1.length),(L,(k:Int),0,f)):=by simp[ky,bn]
theorem jb(kind:Int)(o:gT)(h:¬o.2.2.1=0):eV kind o=some ([],o):=by unfold eV;simp (disch:=omega) only[K0,ZZ o h,bn]
theorem am9(kind:Int)(L:aD)(k:Nat)(f:Int×Int)(h:¬k<L.2.1.length):eV kind (L,(k:Int),0,f)=some ([],(L,(k:Int),1,L.1,0)):=by unfold eV;simp (disch:=omega) only[K0,abl L k f h,bn]
theorem aoT(kind:Int)(L:aD)(D:bD L)(k:Nat)(f:Int×Int)(h:k<L.2.1.length)(F:iL (L.2.1[k]) kind=some true):eV kind (L,(k:Int),0,f)=some (L.2.1[k],(L,((k+1:Nat):Int),0,f)):=by unfold eV;simp[qq L D k f h,bn,F]
def TB(w:aa):Prop:=1<=w.length/\w.length<=80
theorem amb(t:aa)(n:Nat):∀(k:Nat) (ws:ak) (cs:List Nat),t.length-k<=n->(∀w∈ws,TB w)->∀J L,scan t k ws cs=.ok J L->∀w∈J,TB w:=by
 induction n with
 |zero=>
  intro k ws cs M hw J L h;rw[wA _ _ _ _ (by omega)]at h
  grind
 |succ n N=>
  intro k ws cs M hw J L h;by_cases D:k<t.length
  ·cases F:bk (dQ t k)with
   |true=>rw[Ek _ _ _ _ D F]at h;grind
   |false=>
    by_cases h1:ws.length=20\/80<al bk t k-k
    ·rw[wi _ _ _ _ D F h1]at h;grind
    ·by_cases h2:al iV (t.take (al bk t k)) k<al bk t k
     ·rw[Fk _ _ _ _ D F h1 h2]at h;grind
     ·rw[EP _ _ _ _ D F h1 h2]at h;have g1:=zU _ _ D F;have g2:=r5 bk t k (aB7 D);refine N _ _ _ (by omega) (λw O=>?_) _ _ h
      grind[TB,aw7]
  ·grind
theorem QQ(F n:Nat):∀(rest:aa) (no:Nat) (out ls:List pw),rest.length<=n->out.length<no->no<=F+1->(∀d∈out,bD (mn d)/\1<=d.ws.length)->fi F rest no out=.ok ls->(∀d∈ls,bD (mn d)/\1<=d.ws.length)/\ls.length<=F:=by
 induction n with
 |zero=>grind[K2,au5,ay7,Lm]
 |succ n L=>
  intro rest no out ls Y ho Z J h;by_cases e:rest=[]
  ·grind
  ·by_cases hm:F<no
   ·rw[KL _ _ _ _ e hm]at h;cases h
   ·cases hs:nX (rest.take (al dO rest 0))with
    |bad c U=>rw[K3 _ _ _ _ e hm hs]at h;cases h
    |ok ws cs=>
     rw[Lz _ _ _ _ e hm hs]at h;have h0:=ay5.2 e;obtain⟨M,N⟩:=anv hs;have O:=amb _ _ _ _ _ (at9 _) (λw hw=>by cases hw) _ _ hs
     refine L _ _ _ _ (by grind) ?_ (by omega) (λd D=>?_) h
     ·split
      ·omega
      ·rw[au5,ay7];omega
     ·split at D
      ·simp_all
      ·rename_i hw;rcases av3.1 D with D|D
       ·exact J d D
       ·rw[aw0.1 D];exact⟨⟨by show ws.length=(iu cs).length;rw[Lm];exact M,N,O⟩,by show 1<=ws.length;omega⟩
theorem QF(s:aa):(∀L∈(iM s).1,bD L/\1<=L.2.1.length)/\(iM s).1.length<=800:=by
 unfold iM;split
 ·grind
 ·cases h:fi 800 s 1 []with
  |bad c l J=>exact⟨(λL D=>by cases D),au2 _⟩
  |ok ls=>
   obtain⟨h1,h2⟩:=QQ 800 s.length s 1 [] ls (at9 _) (by simp) (by simp) (λd F=>by cases F) h
   refine⟨λL D=>?_,by show(ls.map mn).length<=800;rw[au1];exact h2⟩
   obtain⟨d,F,rfl⟩:=ax1.1 D;exact h1 d F
theorem Xg(c:UInt8):Kz (c.toNat:Int)=some (gC c):=by
 have key:∀b:Bool,(b=true<->((48<=c.toNat/\c.toNat<=57)\/(97<=c.toNat/\c.toNat<=122)\/c.toNat=45))->some b=some (gC c):=λb D=>by
  cases hp:gC c with
  |true=>rw[D.2 (LL hp)]
  |false=>
   cases b with
   |false=>rfl
   |true=>exact absurd (D.1 rfl) (L9 hp)
 grind[Kz]
def Nr(c:UInt8):Bool:=decide (97<=c.toNat)&&decide (c.toNat<=122)
def M3(s:aa):Bool:=match s with|[]=>true|c::_=>Nr c
def kI(s:aa):Bool:=decide (s.length<=20)&&M3 s&&s.all gC
theorem aaL{s:aa}(h:0<s.length):M3 s=Nr s[0]:=by cases s with|nil=>cases h|cons a t=>rfl
theorem aiH(s:aa)(hs:s.length<=20000):ae y9 (s,(s.length:Int),0,())=some (if s.all gC=true then .inl ()else .inr ()):=by
 refine lz s gC (λk=>(s,(s.length:Int),(k:Int),())) _ _ (λk h hp=>?_) (λk h hp=>?_) ?_
 ·simp (disch:=omega) only[K0,y9,Xg,hp]
 ·simp (disch:=omega) only[K0,y9,Xg,hp]
 ·simp[y9]
theorem aim(s:aa)(hs:s.length<=20000):ae yW (s,0,())=some (if s.all gC=true then .inl ()else .inr ()):=by
 refine lz s gC (λk=>(s,(k:Int),())) _ _ (λk h hp=>?_) (λk h hp=>?_) ?_
 ·have hp:=LL hp;simp (disch:=omega) only[K0,yW];grind
 ·have hp:=L9 hp;simp (disch:=omega) only[K0,yW];grind
 ·simp[yW]
theorem Qt(s:aa)(hs:s.length<=20000):EA s=some (kI s):=by
 have fin:(match(if s.all gC=true then(au6 ())else .inr ())with|.inl _=>some true |.inr _=>some false)=some (s.all gC):=by grind
 unfold EA kI;by_cases F:20<s.length
 ·grind
 ·simp (disch:=omega) only[K0];simp only[aiH s hs];by_cases h0:s=[]
  ·subst h0;rfl
  ·have D:=ay5.2 h0;rw[aaL D];simp (disch:=omega) only[K0];unfold Nr;by_cases c1:((s[0]).toNat)<97
   ·grind
   ·grind
theorem JQ(s:aa)(hs:s.length<=20000):zh s=some (kI s):=by
 unfold zh kI;by_cases F:20<s.length
 ·grind
 ·simp (disch:=omega) only[K0];simp only[aim s hs];by_cases h0:s=[]
  ·subst h0;rfl
  ·have D:=ay5.2 h0;rw[aaL D];simp (disch:=omega) only[K0];unfold Nr;by_cases c1:((s[0]).toNat)<97
   ·grind
   ·grind
def Uf(s:aa):Bool:= !decide (s.getLast?=some 45)
def bQ(s:aa):Bool:= !decide (s=[])&&kI s&&Uf s
theorem Al{s:aa}(h:0<s.length){R:Type}(f:UInt8->Option R):(ag s ((s.length:Int)-1)).bind f=f (s[s.length-1])/\s.getLast?=some (s[s.length-1]):=by
 refine⟨?_,?_⟩
 ·rw[show(s.length)-1=((s.length-1:Nat):Int) by omega];exact aI (by omega) f
 ·grind
theorem adF{c:UInt8}:(c.toNat:Int)=45<->c=45:=⟨λe=>by apply UInt8.toNat_inj.1;show c.toNat=45;omega,λe=>by rw[e];rfl⟩
theorem vV(s:aa)(hs:s.length<=20000):o0 s=some (bQ s):=by
 unfold o0 bQ Uf;by_cases h0:s=[]
 ·grind
 ·have D:=ay5.2 h0;rw[dN h0];simp[Qt s hs];cases kI s with
  |false=>rfl
  |true=>
   simp[az4];rw[ai (ba (by omega)),(Al D _).1,(Al D (λ_=>some ())).2]
   by_cases e:s[s.length-1]=45
   ·simp_all
   ·rw[dN (λg=>e (adF.1 g)),dN (λg=>e (Option.some.inj g))]
theorem DJ(s:aa)(hs:s.length<=20000):wj s=some (bQ s):=by
 unfold wj bQ Uf;by_cases h0:s=[]
 ·grind
 ·have D:=ay5.2 h0;rw[dN h0,dY (show(0:Int)<s.length by omega)]
  simp[JQ s hs];cases kI s with
  |false=>rfl
  |true=>
   simp[az4];rw[ai (ba (by omega)),(Al D _).1,(Al D (λ_=>some ())).2]
   by_cases e:s[s.length-1]=45
   ·simp_all
   ·rw[dN (λg=>e (adF.1 g)),dN (λg=>e (Option.some.inj g))]
def dX(c:Nat):Bool:=c==47
theorem asU:gJ 47=dX:=rfl
theorem as2(l:aa)(h:l.length<=20000):lp l T5=some (l.take (al dX l 0),l.drop (al dX l 0+1),decide (al dX l 0<l.length)):=by unfold lp T5;simp only[];rw[if_pos (by omega)];unfold nt;rw[asU]
def jU(s:aa):Option (aa×aa):=match s with
 |[]=>none
 |c::t=>if c=64/\al dX t 0<t.length then some (t.take (al dX t 0),t.drop (al dX t 0+1))else none
theorem Xs(s:aa)(hs:s.length<=20000):EB s=some ((jU s).getD ([],s)):=by
 unfold EB;simp[QI s _ hs];cases s with
 |nil=>rfl
 |cons c t=>
  have D:t.length<=20000:=by grind
  by_cases h:c=64
  ·subst h;have:iU (64::t) AL=true:=by unfold iU AL;rfl
   simp[this];rw[show(64::t).drop AL.length=t from rfl,as2 t D]
   by_cases hm:al dX t 0<t.length
   ·have e:jU (64::t)=some (t.take (al dX t 0),t.drop (al dX t 0+1)):=if_pos ⟨rfl,hm⟩;grind
   ·have e:jU (64::t)=none:=if_neg (λg=>hm g.2);grind
  ·have:iU (c::t) AL=false:=by
     grind[iU,AL]
   have e:jU (c::t)=none:=if_neg (λg=>h g.1);grind
def dt(s:aa):Bool:=match jU s with
 |some p=>bQ p.2&&bQ p.1
 |none=>bQ s
theorem EO{s:aa}{p:aa×aa}(h:jU s=some p):p.1.length+p.2.length+2=s.length/\∃t,s=64::t/\al dX t 0<t.length/\p=(t.take (al dX t 0),t.drop (al dX t 0+1)):=by
 cases s with
 |nil=>cases h
 |cons c t=>grind[jU]
theorem yX(s:aa)(hs:s.length<=20000):rK s=some (dt s):=by
 unfold rK dt;rw[Xs s hs];cases h:jU s with
 |none=>
  simp[vV s hs];cases bQ s with
  |false=>rfl
  |true=>rfl
 |some p=>
  obtain⟨J,_⟩:=EO h;have D:p.1.length<=20000:=by omega
  have F:p.2.length<=20000:=by omega
  simp[vV _ D,vV _ F];cases bQ p.2 with
  |false=>rfl
  |true=>grind
theorem Qq(s:aa)(hs:s.length<=20000):zu s=some (al dX s 0:Int):=by
 have D:al dX s 0<=s.length:=r5 _ _ _ (au2 _)
 have h:ae DI (s,0,())=some (if al dX s 0<s.length then au8 ((al dX s 0:Int),())else au6 (s,())):=by
  refine rL (λk=>(s,(k:Int),())) (λk=>if k<s.length then au8 ((k:Int),())else au6 (s,())) dX s (λk hk hp=>?_) (λk hk hp=>?_) 0 (au2 _)
  ·have F:¬(((s[k]).toNat)=47):=by
     rw[fA hk];unfold dX at hp;grind
   simp (disch:=omega) only[K0,DI]
  ·by_cases D:k<s.length
   ·have F:((s[k]).toNat)=47:=by
      have:=hp D;rw[fA D];unfold dX at this;have:dQ s k=47:=by grind
      omega
    simp (disch:=omega) only[K0,DI]
   ·grind[DI]
 unfold zu;rw[h];by_cases hm:al dX s 0<s.length
 ·grind
 ·grind
theorem QO(t:aa):al dX (64::t) 0=al dX t 0+1:=rfl
theorem Xp(s:aa)(hs:s.length<=20000):Eu s=some (match jU s with|some p=>bQ p.1|none=>false):=by
 unfold Eu;rw[Qq s hs,at0];cases s with
 |nil=>rfl
 |cons c t=>
  by_cases hc:c=64
  ·subst hc;rw[QO];by_cases hm:al dX t 0<t.length
   ·have e:jU (64::t)=some (t.take (al dX t 0),t.drop (al dX t 0+1)):=if_pos ⟨rfl,hm⟩;rw[e];simp (disch:=omega) only[K0];rw[DJ _ (by grind)]
    rfl
   ·have e:jU (64::t)=none:=if_neg (λg=>hm g.2);grind
  ·have e:jU (c::t)=none:=if_neg (λg=>hc g.1);have D:¬c.toNat=64:=λg=>hc (by apply UInt8.toNat_inj.1;show c.toNat=64;omega)
   rw[e];by_cases hm:al dX (c::t) 0<(c::t).length
   ·rw[dY (show((al dX (c::t) 0):Int)<((c::t).length) by omega)]
    simp (disch:=omega) only[K0,aG1]
   ·grind
theorem apq(t:aa):bQ (64::t)=false:=by
 unfold bQ kI;rw[show M3 (64::t)=false from rfl]
 grind
theorem Kc(s:aa)(hs:s.length<=20000):wk s=some (dt s):=by
 unfold wk dt;rw[Xp s hs];cases h:jU s with
 |none=>simp only[K0,DJ s hs]
 |some p=>
  obtain⟨D,t,rfl,hm,rfl⟩:=EO h;simp only[];cases hp:bQ (t.take (al dX t 0))with
  |false=>simp only[K0,DJ _ hs,apq]
  |true=>
   simp only[Qq _ hs,at0,QO,aS,aD4];simp[av1]at hs;rw[aC (by omega),ai (show(0:Int)<=((al dX t 0+1+1:Nat):Int)/\((al dX t 0+1+1:Nat):Int)<=((64::t).length)/\((64::t).length)<=((64::t).length:Int) by simp[av1];omega)]
   rw[av0,av0,ax6,DJ _ (by grind)]
   rfl
def kM(s:aa):Bool:=decide (s.getLast?=some 42)
theorem KI{s:aa}(h:kM s=true):s=s.dropLast++[42]:=by
 have h:=of_decide_eq_true h;cases hs:s with
 |nil=>grind
 |cons a t=>
  have D:s≠[]:=by grind
  have e:=List.dropLast_concat_getLast D;grind
def mr(s:aa):Bool:=if kM s=true then(match jU s.dropLast with|some p=>kI p.2&&bQ p.1|none=>kI s.dropLast)else dt s
theorem ajl(s:aa)(hs:s.length<=20000):II s kN=some (kM s):=by
 unfold II kM;cases s with
 |nil=>rfl
 |cons a t=>
  rw[dY (show(kN.length:Int)<=((a::t).length) by show(1:Int)<=_;simp[av1];omega)]
  simp only[cond_true];have D:((a::t).length)-kN.length=(t.length:Int):=by show((a::t).length:Int)-1=_;grind
  rw[D,aC (by omega),ai (show(0:Int)<=t.length/\t.length<=((a::t).length:Int)/\((a::t).length)<=((a::t).length:Int) by simp[av1];omega),av0,av0,ax6]
  have L:t.length<(a::t).length:=by simp
  have F:(a::t).drop t.length=[(a::t)[t.length]]:=by rw[av6 L,az3 (by simp)]
  have J:(a::t).getLast?=some ((a::t)[t.length]):=by grind
  rw[F,J];by_cases h:(a::t)[t.length]=42
  ·rw[dY (show[(a::t)[t.length]]=kN by rw[h];rfl),dY (by rw[h])]
  ·rw[dN (show¬[(a::t)[t.length]]=kN from λg=>h (by injection g)),dN (λg=>h (Option.some.inj g))]
theorem Qm(s:aa)(hs:s.length<=20000):yJ s kN=some (if kM s=true then(s.dropLast,true)else(s,false)):=by
 unfold yJ PS;rw[ajl s hs];cases h:kM s with
 |false=>rfl
 |true=>
  have e:=KI h;have F:s.length=s.dropLast.length+1:=by grind
  have D:s.length-kN.length=((s.length-1:Nat):Int):=by show(s.length:Int)-1=_;omega
  simp (disch:=omega) only[K0,D];grind
theorem QD(s:aa)(hs:s.length<=20000):zQ s=some (mr s):=by
 unfold zQ mr;rw[Qm s hs];cases h:kM s with
 |false=>simp[yX s hs]
 |true=>
  have D:s.dropLast.length<=20000:=by grind
  simp[Xs _ D];cases h2:jU s.dropLast with
  |none=>simp only[Option.getD_none,Qt _ D];grind
  |some p=>
   obtain⟨L,_⟩:=EO h2;have F:p.1.length<=20000:=by omega
   have J:p.2.length<=20000:=by omega
   simp[Qt _ J,vV _ F];cases kI p.2 with
   |false=>rfl
   |true=>grind
theorem ap3(t:aa):kI (64::t)=false:=by
 unfold kI;rw[show M3 (64::t)=false from rfl]
 grind
theorem atl{c:UInt8}:(c.toNat:Int)=42<->c=42:=⟨λe=>by apply UInt8.toNat_inj.1;show c.toNat=42;omega,λe=>by rw[e];rfl⟩
theorem QT(s:aa)(hs:s.length<=20000):zW s=some (kM s):=by
 unfold zW kM;by_cases h0:s=[]
 ·grind
 ·have D:=ay5.2 h0;rw[dY (show(0:Int)<s.length by omega)]
  simp[cond_true];rw[ai (ba (by omega)),(Al D _).1,(Al D (λ_=>some ())).2]
  by_cases e:s[s.length-1]=42
  ·simp_all
  ·rw[dN (λg=>e (atl.1 g)),dN (λg=>e (Option.some.inj g))]
theorem QV(s:aa)(hs:s.length<=20000):zX s=some (mr s):=by
 unfold zX mr;rw[QT s hs];cases h:kM s with
 |false=>simp[Kc s hs]
 |true=>
  have e:=KI h;have L:s.length=s.dropLast.length+1:=by grind
  have D:s.dropLast.length<=20000:=by omega
  have F:s.length-1=((s.length-1:Nat):Int):=by omega
  simp only[F];rw[aC (by omega),ai (show(0:Int)<=0/\0<=((s.length-1:Nat):Int)/\((s.length-1:Nat):Int)<=s.length by omega),av0]
  rw[show(s.take (s.length-1)).drop (0:Int).toNat=s.dropLast by rw[List.dropLast_eq_take];rfl]
  rw[Xp _ D];cases h2:jU s.dropLast with
  |none=>simp only[K0,JQ _ D]
  |some p=>
   obtain⟨M,t,J,hm,rfl⟩:=EO h2;simp only[];rw[J]at D⊢;cases hp:bQ (t.take (al dX t 0))with
   |false=>simp only[K0,JQ _ D,ap3]
   |true=>
    simp only[Qq _ D,at0,QO,aS,aD4];simp[av1]at D;rw[aC (by omega),ai (show(0:Int)<=((al dX t 0+1+1:Nat):Int)/\((al dX t 0+1+1:Nat):Int)<=((64::t).length)/\((64::t).length)<=((64::t).length:Int) by simp[av1];omega)]
    rw[av0,av0,ax6,JQ _ (by grind)]
    rfl
def eM(c:UInt8):Bool:=decide (gV c.toNat<16)
theorem Xt(c:UInt8):KR (c.toNat:Int)=some ((gV c.toNat:Nat):Int):=by
 unfold KR gV;by_cases c1:48<=c.toNat
 ·rw[dY (show(48:Int)<=(c.toNat:Int) by omega)]
  by_cases c2:c.toNat<=57
  ·rw[dY (show(c.toNat:Int)<=57 by omega),if_pos ⟨c1,c2⟩]
   simp only[cond_true];rw[ai (by rw[ud];omega),show(c.toNat:Int)-48=((c.toNat-48:Nat):Int) by omega]
  ·rw[dN (show¬(c.toNat:Int)<=57 by omega),if_neg (λg=>c2 g.2)]
   by_cases D:97<=c.toNat
   ·rw[dY (show(97:Int)<=(c.toNat:Int) by omega)]
    by_cases F:c.toNat<=102
    ·rw[dY (show(c.toNat:Int)<=102 by omega),if_pos ⟨D,F⟩]
     simp only[cond_true,cond_false];rw[ai (by rw[ud];omega),ai (by rw[ud];omega),show(c.toNat:Int)-97+10=((c.toNat-87:Nat):Int) by omega]
    ·rw[dN (show¬(c.toNat:Int)<=102 by omega),if_neg (λg=>F g.2)];rfl
   ·rw[dN (show¬(97:Int)<=(c.toNat:Int) by omega),if_neg (λg=>D g.1)];rfl
 ·rw[dN (show¬(48:Int)<=(c.toNat:Int) by omega),dN (show¬(97:Int)<=(c.toNat:Int) by omega),if_neg (λg=>c1 g.1),if_neg (λg=>by omega)];rfl
def dn(n:Nat)(c:UInt8):Nat:=n*16+gV c.toNat
theorem Tp(l:aa):dz l=l.foldl dn 0:=rfl
theorem aaB{V R:Type}{f:V->Option (V⊕R)}(s:aa)(st:Nat->Nat->V)(a:Nat->R)(b:R)
  (h1:∀k (h:k<s.length) (n:Nat),n<16^k->eM s[k]=true->f (st k n)=some (.inl (st (k+1) (dn n s[k]))))
  (h2:∀k (h:k<s.length) (n:Nat),n<16^k->eM s[k]=false->f (st k n)=some (.inr b))
  (J:∀n,f (st s.length n)=some (.inr (a n))):ae f (st 0 0)=some (if s.all eM=true then a (dz s)else b):=by
 have:∀m k n,s.length-k=m->k<=s.length->n<16^k->ae f (st k n)=some (if(s.drop k).all eM=true then a ((s.drop k).foldl dn n)else b):=by
  intro m
  induction m with
  |zero=>
   intro k n L hk F;have e:k=s.length:=by omega
   subst e;rw[bI,J,ay8];rfl
  |succ m M=>
   intro k n L hk F;have D:k<s.length:=by omega
   rw[bI,av6 D,ay4,aB3];cases hp:eM s[k]with
   |true=>rw[h1 k D n F hp,az4];show ae f (st (k+1) (dn n s[k]))=_;have:=of_decide_eq_true hp;exact M (k+1) _ (by omega) (by omega) (by unfold dn;rw[aC0];omega)
   |false=>rw[h2 k D n F hp];rfl
 exact this _ 0 0 rfl (au2 _) (by decide)
theorem acz{k n:Nat}(h:n<16^k)(hk:k<=15):n<1152921504606846976:=aA5 h (aA8 (by simp) hk)
theorem ar5(v d:Nat)(L:v<1152921504606846976)(J:d<16):bits .or .u64 ((v:Int)*16) (d:Int)=((v*16+d:Nat):Int):=by
 rw[u64_or _ _ (by omega) (by omega) (by omega) (by omega)]
 have D:((v:Int)*16).toNat=v*16:=by omega
 rw[D,av0];have F:v*16=v<<<4:=by rw[Nat.shiftLeft_eq]
 rw[F,Nat.shiftLeft_add_eq_or_of_lt (by omega)]
theorem SU{n:Nat}(h:n<18446744073709551616):av4 .u64 (n:Int)=(n:Int):=wrap_u64 (by omega)
theorem ahx(s:aa):De s=some (if s.length=16/\s.all eM=true then((dz s:Int),true)else(0,false)):=by
 unfold De;by_cases F:s.length=16
 ·rw[dY (show(s.length:Int)=16 by omega)]
  have h:ae C5 (s,0,(s.length:Int),0,())=some (if s.all eM=true then au6 ((dz s:Int),())else au8 (0,())):=by
   refine aaB s (λk n=>(s,(n:Int),(s.length:Int),(k:Int),())) (λn=>au6 ((n:Int),())) _ (λk h n D hp=>?_) (λk h n D hp=>?_) (λn=>?_)
   ·have J:=of_decide_eq_true hp;have D:=acz D (by omega)
    simp only[C5,dY (show(k:Int)<(s.length:Int) by omega),cond_true,aI h,Xt,at0,dN (show¬(15:Int)<((gV (s[k]).toNat:Nat):Int) by omega),cond_false]
    rw[ai (by decide),ai (ba (by omega))]
    rw[show((n:Int)*2^(min (4:Int).toNat (av9 .u64)))=(n:Int)*16 from rfl]
    rw[wrap_u64 (show 0<=(n:Int)*16/\(n:Int)*16<=18446744073709551615 by omega),SU (show gV (s[k]).toNat<18446744073709551616 by omega),ar5 n _ D J]
    rfl
   ·have J:¬gV (s[k]).toNat<16:=λg=>by unfold eM at hp;rw[dY g]at hp;cases hp
    simp only[C5,dY (show(k:Int)<(s.length:Int) by omega),cond_true,aI h,Xt,at0,dY (show(15:Int)<((gV (s[k]).toNat:Nat):Int) by omega)]
   ·simp only[C5,dN (show¬(s.length:Int)<(s.length:Int) by omega),cond_false]
  simp only[av2,cond_false,h,at0];cases s.all eM with
  |true=>rw[if_pos rfl,if_pos ⟨F,rfl⟩]
  |false=>rw[if_neg aG0,if_neg (λg=>aG0 g.2)]
 ·rw[dN (show¬(s.length:Int)=16 by omega),if_neg (λg=>F g.1)];rfl
theorem SV(n:Int):av4 .u64 n=n %18446744073709551616:=by simp [av4,IntKind.signed,av9]
theorem Ku(s:aa):nT s=some (if s.length=16/\s.all eM=true then((dz s:Int),true)else(0,false)):=by
 unfold nT;by_cases M:s.length=16
 ·simp (disch:=omega) only[K0]
  have h:ae Ew (s,0,0,())=some (if s.all eM=true then au6 ((dz s:Int),())else au8 (0,())):=by
   refine aaB s (λk n=>(s,(n:Int),(k:Int),())) (λn=>au6 ((n:Int),())) _ (λk h n F hp=>?_) (λk h n F hp=>?_) (λn=>?_)
   ·have L:=of_decide_eq_true hp;have F:=acz F (by omega)
    have J:=(s[k]).toNat_lt;simp (disch:=omega) only[K0,Ew,SU (show(s[k]).toNat<18446744073709551616 by omega)]
    by_cases c1:48<=(s[k]).toNat/\(s[k]).toNat<=57
    ·have e:dn n s[k]=n*16+((s[k]).toNat-48):=by unfold dn gV;rw[if_pos c1]
     simp (disch:=omega) only[K0,e];simp only[SV];have D:((n*16 %18446744073709551616+((s[k]).toNat))%18446744073709551616-48)%18446744073709551616=((n*16+((s[k]).toNat-48):Nat):Int):=by omega
     rw[D]
    ·by_cases c2:97<=(s[k]).toNat/\(s[k]).toNat<=102
     ·have e:dn n s[k]=n*16+((s[k]).toNat-87):=by unfold dn gV;rw[if_neg c1,if_pos c2]
      simp only[e];simp (disch:=omega) only[K0,SV];have D:((n*16 %18446744073709551616+((s[k]).toNat))%18446744073709551616-87)%18446744073709551616=((n*16+((s[k]).toNat-87):Nat):Int):=by omega
      rw[D]
     ·grind[gV]
   ·have L:¬gV (s[k]).toNat<16:=λg=>by unfold eM at hp;rw[dY g]at hp;cases hp
    have J:=(s[k]).toNat_lt;simp_all[gV];simp (disch:=omega) only[K0,Ew,SU (show(s[k]).toNat<18446744073709551616 by omega)]
    grind
   ·grind[Ew]
  grind
 ·grind
theorem ajd(s:aa)(hs:s.length<=20000):Ea s=some (s,bQ s):=by unfold Ea;rw[vV s hs];rfl
theorem ajP(s:aa)(hs:s.length<=20000):EF s=some (s,dt s):=by unfold EF;rw[yX s hs];rfl
theorem aiG(s:aa)(hs:s.length<=20000):DN s=some (s,bQ s):=by unfold DN;rw[vV s hs];rfl
theorem ai9(s:aa)(hs:s.length<=20000):D9 s=some (s,dt s):=by unfold D9;rw[yX s hs];rfl
theorem ai8(s:aa)(hs:s.length<=20000):D8 s=some (s,mr s):=by unfold D8;rw[QD s hs];rfl
def cE(l:ak)(v:aa):Bool:=l.any λx=>decide (x=v)
theorem abI{V R α:Type}{f:V->Option (V⊕R)}(l:List α)(p:α->Bool)(st:Nat->V)(a:Nat->R)(b:R)
  (h1:∀k (h:k<l.length),p l[k]=false->f (st k)=some (.inl (st (k+1))))
  (h2:∀k (h:k<l.length),p l[k]=true->f (st k)=some (.inr (a k)))
  (F:f (st l.length)=some (.inr b)):(l.any p=true->∃k,k<l.length/\ae f (st 0)=some (a k))/\(l.any p=false->ae f (st 0)=some b):=by
 have:∀n k,l.length-k=n->k<=l.length->((l.drop k).any p=true->∃j,j<l.length/\ae f (st k)=some (a j))/\((l.drop k).any p=false->ae f (st k)=some b):=by
  intro n
  induction n with
  |zero=>
   intro k J hk;have e:k=l.length:=by omega
   subst e;rw[ay8];exact⟨(λh=>by cases h),(λ_=>by rw[bI,F])⟩
  |succ n L=>
   intro k J hk;have D:k<l.length:=by omega
   rw[av6 D,aD7];cases hp:p l[k]with
   |true=>exact⟨(λ_=>⟨k,D,by rw[bI,h2 k D hp]⟩),(λh=>by cases h)⟩
   |false=>
    have e:ae f (st k)=ae f (st (k+1)):=by rw[bI,h1 k D hp]
    rw[e,Bool.false_or];exact L (k+1) (by omega) (by omega)
 exact this _ 0 rfl (au2 _)
theorem KE(l:ak)(v:aa)(F:l.length<=1000000):rE l v=some (cE l v):=by
 obtain⟨h1,h2⟩:=abI (f:=oS) l (λx=>decide (x=v)) (λk=>(l,v,(l.length:Int),(k:Int),())) (λk=>au8 ((k:Int),())) (au6 ()) (λk h hp=>by
  have hp:¬v=l[k]:=λe=>of_decide_eq_false hp e.symm;simp only[oS,dY (show(k:Int)<(l.length:Int) by omega),cond_true,cond_false,aI h,dN hp,aS,aC (show k+1<=4611686018427387904 by omega)]) (λk h hp=>by
  have hp:v=l[k]:=(of_decide_eq_true hp).symm;simp only[oS,dY (show(k:Int)<(l.length:Int) by omega),cond_true,aI h,dY hp]) (by
  simp only[oS,dN (show¬(l.length:Int)<(l.length:Int) by omega),cond_false])
 unfold rE mL cE;cases D:l.any (λx=>decide (x=v))with
 |true=>obtain⟨k,_,e⟩:=h1 D;have e:ae oS (l,v,(l.length:Int),0,())=some (au8 ((k:Int),())):=e;simp only[e,at0,dY (show(0:Int)<=(k:Int) by omega)]
 |false=>have e:ae oS (l,v,(l.length:Int),0,())=some (au6 ()):=h2 D;simp only[e,at0];rfl
theorem rQ(l:ak)(v:aa)(F:l.length<=1000000):nY l v=some (cE l v):=by
 obtain⟨h1,h2⟩:=abI (f:=wF) l (λx=>decide (x=v)) (λk=>(l,v,(k:Int),())) (λk=>au8 ()) (au6 ()) (λk h hp=>by
  have hp:¬l[k]=v:=of_decide_eq_false hp;simp only[wF,dY (show(k:Int)<(l.length:Int) by omega),cond_true,cond_false,aI h,dN hp,aS,aC (show k+1<=4611686018427387904 by omega)]) (λk h hp=>by
  have hp:l[k]=v:=of_decide_eq_true hp;simp only[wF,dY (show(k:Int)<(l.length:Int) by omega),cond_true,aI h,dY hp]) (by
  simp only[wF,dN (show¬(l.length:Int)<(l.length:Int) by omega),cond_false])
 unfold nY cE;cases D:l.any (λx=>decide (x=v))with
 |true=>obtain⟨k,_,e⟩:=h1 D;have e:ae wF (l,v,0,())=some (au8 ()):=e;rw[e];rfl
 |false=>have e:ae wF (l,v,0,())=some (au6 ()):=h2 D;rw[e];rfl
def iC(w:aa):Bool:=decide (w.length=16)&&w.all eM
theorem SQ(w:aa)(h:w.length<=20000):iL w 1=some (bQ w):=by unfold iL;simp[DJ w h]
theorem Tw(w:aa)(h:w.length<=20000):iL w 2=some (dt w):=by unfold iL;simp[Kc w h]
theorem YX(w:aa)(h:w.length<=20000):iL w 3=some (cr w):=by
 unfold iL;simp only[dN (show¬(3:Int)=1 by decide),dN (show¬(3:Int)=2 by decide),decide_true,cond_false,cond_true,DK w h,at0]
 cases cr w<;>rfl
theorem aqF(w:aa)(h:w.length<=20000):iL w 4=some (jB w):=by
 unfold iL;simp only[dN (show¬(4:Int)=1 by decide),dN (show¬(4:Int)=2 by decide),dN (show¬(4:Int)=3 by decide),decide_true,cond_false,cond_true,XH w h,at0]
 cases jB w<;>rfl
theorem acQ(w:aa):iL w 6=some (iC w):=by
 unfold iL iC;simp only[dN (show¬(6:Int)=1 by decide),dN (show¬(6:Int)=2 by decide),dN (show¬(6:Int)=3 by decide),dN (show¬(6:Int)=4 by decide),dN (show¬(6:Int)=5 by decide),decide_true,cond_false,cond_true,Ku w,at0]
 by_cases h:w.length=16
 ·rw[dY h];cases e:w.all eM with
  |true=>rw[if_pos ⟨h,rfl⟩];rfl
  |false=>rw[if_neg (λg=>aG0 g.2)];rfl
 ·rw[dN h,if_neg (λg=>h g.1)];rfl
theorem arS(w:aa)(h:w.length<=20000):iL w 7=some (mr w):=by unfold iL;simp[QV w h]
def jk:Nat->aa->Option Nat
 |_,[]=>some 0
 |D,c::t=>if D<=c.toNat/\97<=c.toNat/\c.toNat<=122 then(jk (c.toNat+1) t).map (λn=>n+2^(c.toNat-97))else none
theorem ar6{l b:Nat}(h:l<2^b)(L:b<=25):bits .or .u32 (l:Int) (av4 .u32 (1*2^(min b (av9 .u32))))=((l+2^b:Nat):Int):=by
 have hp:2^b<=33554432:=by have:=aA8 (show 0<2 by decide) L;exact this
 have F:min b (av9 .u32)=b:=Nat.min_eq_left (by show b<=32;omega)
 have J:(1:Int)*2^b=((2^b:Nat):Int):=by simp
 rw[F,J,wrap_u32 (by omega),u32_or _ _ (by omega) (by omega) (by omega) (by omega),av0,av0]
 have D:2^b*1+l=2^b*1|||l:=Nat.two_pow_add_eq_or_of_lt h 1
 rw[Nat.mul_one]at D;rw[Nat.or_comm,<-D,Nat.add_comm]
theorem Zv{D:Nat}{c:UInt8}{t:aa}(h1:D<=c.toNat)(h2:97<=c.toNat)(F:c.toNat<=122):jk D (c::t)=(jk (c.toNat+1) t).map (λn=>n+2^(c.toNat-97)):=by rw[jk,if_pos ⟨h1,h2,F⟩]
theorem zR{D:Nat}{c:UInt8}{t:aa}(h:¬(D<=c.toNat/\97<=c.toNat/\c.toNat<=122)):jk D (c::t)=none:=by rw[jk,if_neg h]
theorem aiI(s:aa)(hs:s.length<=20000):∀(n k l D:Nat),s.length-k=n->k<=s.length->(k=0->D=0)->(∀h:0<k/\k<=s.length,D=(s[k-1]'(by omega)).toNat+1)->l<2^(D-97)->
  ae za (s,(l:Int),(s.length:Int),(k:Int),())=some ((jk D (s.drop k)).elim (au8 (0,())) (λn=>au6 (s,((l+n:Nat):Int),()))):=by
 intro n
 induction n with
 |zero=>
  intro k l D hn hk h0 h1 M;have e:k=s.length:=by omega
  subst e;rw[bI,ay8];simp only[za,dN (show¬(s.length:Int)<(s.length:Int) by omega),cond_false]
  rfl
 |succ n ih=>
  intro k l D hn hk h0 h1 M;have O:k<s.length:=by omega
  rw[bI,av6 O];simp only[za,dY (show(k:Int)<(s.length:Int) by omega),cond_true,aI O]
  by_cases c1:((s[k]).toNat:Int)<97
  ·simp only[dY c1,cond_true];rw[zR (λg=>by omega)];rfl
  ·simp only[dN c1,cond_false];by_cases c2:(122:Int)<((s[k]).toNat:Int)
   ·simp only[dY c2,cond_true];rw[zR (λg=>by omega)];rfl
   ·simp only[dN c2,cond_false]
    have next:D<=(s[k]).toNat->ae za (s,bits .or .u32 (l:Int) (av4 .u32 (1*2^(min (((s[k]).toNat:Int)-97).toNat (av9 .u32)))),(s.length:Int),((k+1:Nat):Int),())=some ((jk D (s[k]::s.drop (k+1))).elim (au8 (0,())) (λn=>au6 (s,((l+n:Nat):Int),()))):=λN=>by
     have U:(((s[k]).toNat:Int)-97).toNat=(s[k]).toNat-97:=by omega
     have Z:l<2^((s[k]).toNat-97):=aA5 M (aA8 (by decide) (by omega))
     have ah:l+2^((s[k]).toNat-97)<2^((s[k]).toNat+1-97):=by rw[show(s[k]).toNat+1-97=((s[k]).toNat-97)+1 by omega,aC0];omega
     rw[U,ar6 Z (by omega),Zv N (by omega) (by omega),ih (k+1) _ ((s[k]).toNat+1) (by omega) (by omega) (λh=>by omega) (λh=>by simp only[aC1]) ah]
     cases jk ((s[k]).toNat+1) (s.drop (k+1))with
     |none=>rfl
     |some m=>show some (au6 (s,((l+2^((s[k]).toNat-97)+m:Nat):Int),()))=some (au6 (s,((l+(m+2^((s[k]).toNat-97)):Nat):Int),()));rw[show l+2^((s[k]).toNat-97)+m=l+(m+2^((s[k]).toNat-97)) by omega]
    have L:∀{R:Type} (K:Option R),J (ab .u8 (((s[k]).toNat:Int)-97)) (J (0<=(((s[k]).toNat:Int)-97)) (J (ab .i64 ((k:Int)+1)) K))=K:=λK=>by rw[ai (by rw[ud];omega),ai (by omega),ai (ba (by omega))]
    by_cases h:0<k
    ·have N:=h1 ⟨h,hk⟩;have Y:(k:Int)-1=((k-1:Nat):Int):=by omega
     have an:k-1<s.length:=by omega
     simp only[dY (show(0:Int)<(k:Int) by omega),cond_true]
     rw[Y,aC (show k-1<=4611686018427387904 by omega),aI an]
     by_cases F:((s[k]).toNat:Int)<=((s[k-1]).toNat:Int)
     ·simp only[dY F,cond_true];rw[zR (λg=>by omega)];rfl
     ·simp only[dN F,cond_false];rw[L];exact next (by omega)
    ·simp only[dN (show¬(0:Int)<(k:Int) by omega),cond_false]
     rw[L];exact next (by have:=h0 (by omega);omega)
def jI(s:aa):Option Nat:=if s=[45]then some 0 else if s=[]then none else jk 0 s
theorem ajH(s:aa)(hs:s.length<=20000):∃x,EC s=some (x,(jI s).isSome)/\∀n,jI s=some n->x=(n:Int):=by
 unfold EC;by_cases h:s=oj
 ·have h':s=[45]:=h;rw[dY h];exact⟨0,by unfold jI;rw[if_pos h'];rfl,λn D=>by unfold jI at D;rw[if_pos h']at D;injection D with D;subst D;rfl⟩
 ·have h':¬s=[45]:=h;have F:ae za (s,0,(s.length:Int),0,())=some ((jk 0 s).elim (au8 (0,())) (λn=>au6 (s,((0+n:Nat):Int),()))):=aiI s hs s.length 0 0 0 (by omega) (au2 _) (λ_=>rfl) (λh=>by omega) (by decide)
  rw[dN h];simp only[cond_false,F,at0];unfold jI;rw[if_neg h'];by_cases h0:s=[]
  ·subst h0;exact⟨((0+0:Nat):Int),rfl,λn D=>by rw[if_pos rfl]at D;cases D⟩
  ·rw[if_neg h0];cases jk 0 s with
   |none=>exact⟨0,rfl,λn D=>by cases D⟩
   |some m=>
    refine⟨((0+m:Nat):Int),?_,λn D=>by injection D with D;subst D;rw[ax2]⟩
    show some (((0+m:Nat):Int),!decide (s=[]))=_;rw[dN h0];rfl
def fX:List Int->Int
 |[]=>0
 |x::t=>fX t*2+x
def AI(F:List Int):Prop:= ∀x∈F,x=0\/x=1
theorem Te:∀(F:List Int),AI F->0<=fX F/\fX F<2^F.length
 |[],_=>⟨Int.le_refl _,by decide⟩
 |x::t,h=>by obtain⟨h1,h2⟩:=Te t (λy D=>h y (ax5 _ D));have J:=h x aw4;rw[av1];show 0<=fX t*2+x/\fX t*2+x<_;omega
theorem Xo(F:List Int)(J:AI F)(Y:F.length<=26):Es F=some (fX F):=by
 have h:∀k,k<=F.length->ae DH (F,fX (F.drop k),k-1,())=some (fX F,()):=by
  intro k
  induction k with
  |zero=>simp[bI,DH]
  |succ k Z=>
   intro hk;have D:k<F.length:=by omega
   obtain⟨M,N⟩:=Te (F.drop (k+1)) (λx L=>J x (List.mem_of_mem_drop L))
   have O:(2:Int)^(F.drop (k+1)).length<=67108864:=by
    have:2^(F.drop (k+1)).length<=2^26:=aA8 (by simp) (by grind)
    grind
   have L:=J _ (at2 D);have U:fX (F.drop k)=fX (F.drop (k+1))*2+F[k]:=by rw[av6 D];rfl
   rw[bI];simp[DH,aI D];rw[wrap_u32 (by omega),ai (by rw[To];omega),ai (by rw[To];omega),ai (ba (by omega))]
   grind
 have:=h F.length (at9 _);rw[ay8]at this;have this:ae DH (F,0,F.length-1,())=some (fX F,()):=this;unfold Es;rw[ai (ba (by omega)),this];rfl
theorem aaq:∀(F:List Int) (j:Nat) (h:j<F.length),F[j]=0->fX (F.set j 1)=fX F+2^j
 |x::t,0,_,e=>by have e:=e;subst e;show fX t*2+1=fX t*2+0+2^0;omega
 |x::t,j+1,h,e=>by
  have:=aaq t j (by grind) (by grind)
  show fX (t.set j 1)*2+x=fX t*2+x+2^(j+1);omega
def clear(F:List Int)(D:Nat):Prop:=F.length=26/\AI F/\∀j (h:j<F.length),D<=j+97->F[j]=0
theorem aiE(s:aa)(hs:s.length<=20000):∀(n k L:Nat) (F:List Int),s.length-k=n->k<=s.length->(k=0->L=0)->(∀h:0<k/\k<=s.length,L=(s[k-1]'(by omega)).toNat+1)->clear F L->
  (jk L (s.drop k)=none->ae oX (s,(k:Int),F,())=some (au8 ()))/\
  (∀m,jk L (s.drop k)=some m->∃D,ae oX (s,(k:Int),F,())=some (au6 (s,D,()))/\D.length=26/\AI D/\fX D=fX F+(m:Int)):=by
 intro n
 induction n with
 |zero=>
  intro k L F hn hk h0 h1 M;have e:k=s.length:=by omega
  subst e;have e:ae oX (s,(s.length:Int),F,())=some (au6 (s,F,())):=by rw[bI];simp only[oX,dN (show¬(s.length:Int)<(s.length:Int) by omega),cond_false]
  rw[ay8];refine⟨(λh=>by cases h),λm hm=>⟨F,e,M.1,M.2.1,?_⟩⟩
  have:(0:Nat)=m:=Option.some.inj hm;subst this;omega
 |succ n ih=>
  intro k L F hn hk h0 h1 M;have ah:k<s.length:=by omega
  rw[bI,av6 ah];simp only[oX,dY (show(k:Int)<(s.length:Int) by omega),cond_true,aI ah]
  by_cases c1:((s[k]).toNat:Int)<97
  ·simp only[dY c1,cond_true];exact⟨(λ_=>trivial),λm hm=>by rw[zR (λg=>by omega)]at hm;cases hm⟩
  ·simp only[dN c1,cond_false];by_cases c2:(122:Int)<((s[k]).toNat:Int)
   ·simp only[dY c2,cond_true];exact⟨(λ_=>trivial),λm hm=>by rw[zR (λg=>by omega)]at hm;cases hm⟩
   ·simp only[dN c2,cond_false];have Y:(((s[k]).toNat:Int)-97).toNat=(s[k]).toNat-97:=by omega
    have O:(s[k]).toNat-97<F.length:=by have:=M.1;omega
    have ops:∀{R:Type} (K:Option R),J (ab .u8 (((s[k]).toNat:Int)-97)) (J (0<=(((s[k]).toNat:Int)-97)/\(((s[k]).toNat:Int)-97)<(F.length:Int)) ((F[(((s[k]).toNat:Int)-97).toNat]?).bind λq=>J (ab .i64 ((k:Int)+1)) K))=K:=λK=>by have:=M.1;rw[ai (by rw[ud];omega),ai (by omega),Y,au4 O,at0,ai (ba (by omega))]
    have next:L<=(s[k]).toNat->(jk L (s[k]::s.drop (k+1))=none->ae oX (s,((k+1:Nat):Int),F.set (((s[k]).toNat:Int)-97).toNat 1,())=some (au8 ()))/\(∀m,jk L (s[k]::s.drop (k+1))=some m->∃D,ae oX (s,((k+1:Nat):Int),F.set (((s[k]).toNat:Int)-97).toNat 1,())=some (au6 (s,D,()))/\D.length=26/\AI D/\fX D=fX F+(m:Int)):=λZ=>by
     have hz:F[(s[k]).toNat-97]=0:=M.2.2 _ O (by omega)
     have an:clear (F.set ((s[k]).toNat-97) 1) ((s[k]).toNat+1):=by
      refine⟨by rw[aA9];exact M.1,λx N=>?_,λj h a1=>?_⟩
      ·rcases List.mem_or_eq_of_mem_set N with N|N
       ·exact M.2.1 x N
       ·exact .inr N
      ·rw[List.getElem_set,if_neg (by omega)]
       exact M.2.2 j (by rw[aA9]at h;exact h) (by omega)
     rw[Y,Zv Z (by omega) (by omega)]
     obtain⟨i1,i2⟩:=ih (k+1) ((s[k]).toNat+1) (F.set ((s[k]).toNat-97) 1) (by omega) (by omega) (λh=>by omega) (λh=>by simp only[aC1]) an
     refine⟨λh=>i1 (by cases e:jk ((s[k]).toNat+1) (s.drop (k+1))with|none=>rfl|some q=>rw[e]at h;cases h),λm hm=>?_⟩
     cases e:jk ((s[k]).toNat+1) (s.drop (k+1))with
     |none=>rw[e]at hm;cases hm
     |some q=>
      rw[e]at hm;have hm:q+2^((s[k]).toNat-97)=m:=Option.some.inj hm;obtain⟨D,f1,f2,f3,f4⟩:=i2 q e;refine⟨D,f1,f2,f3,?_⟩;have aE:(m:Int)=(q:Int)+2^((s[k]).toNat-97):=by rw[<-hm];simp
      rw[f4,aaq F _ O hz,aE];omega
    by_cases h:0<k
    ·have Z:=h1 ⟨h,hk⟩;have ar:(k:Int)-1=((k-1:Nat):Int):=by omega
     have az:k-1<s.length:=by omega
     simp only[dY (show(0:Int)<(k:Int) by omega),cond_true]
     rw[ar,aC (show k-1<=4611686018427387904 by omega),aI az]
     by_cases U:((s[k]).toNat:Int)<=((s[k-1]).toNat:Int)
     ·simp only[dY U,cond_true];exact⟨(λ_=>trivial),λm hm=>by rw[zR (λg=>by omega)]at hm;cases hm⟩
     ·simp only[dN U,cond_false];rw[ops];exact next (by omega)
    ·simp only[dN (show¬(0:Int)<(k:Int) by omega),cond_false]
     rw[ops];exact next (by have:=h0 (by omega);omega)
def LX:List Int:=av5 26 0
theorem XR:clear LX 0:=⟨rfl,λx D=>.inl (List.eq_of_mem_replicate D),λj h _=>List.eq_of_mem_replicate (at2 h)⟩
theorem amw:fX LX=0:=rfl
theorem J2(s:aa)(hs:s.length<=20000):∃F,zt s=some (F,(jI s).isSome)/\F.length<=26/\AI F/\∀n,jI s=some n->fX F=(n:Int):=by
 unfold zt;rw[ai (by simp)]
 by_cases h:s=oj
 ·have h':s=[45]:=h;rw[dY h];refine⟨LX,by unfold jI;rw[if_pos h'];rfl,by decide,XR.2.1,λn D=>?_⟩
  unfold jI at D;rw[if_pos h']at D;cases D;rfl
 ·have h':¬s=[45]:=h;rw[dN h];obtain⟨h1,h2⟩:=aiE s hs s.length 0 0 LX rfl (au2 _) (by simp) (by simp) XR
  rw[ax7]at h1 h2;unfold jI;rw[if_neg h'];by_cases h0:s=[]
  ·subst h0;obtain⟨J,f1,f2,f3,f4⟩:=h2 0 rfl;refine⟨J,?_,by omega,f3,λn D=>by rw[if_pos rfl]at D;cases D⟩
   simp only[cond_false];rw[show ae oX ([],0,av5 (26:Int).toNat 0,())=_ from f1];rfl
  ·rw[if_neg h0];cases e:jk 0 s with
   |none=>
    refine⟨[],?_,by decide,(λx L=>by cases L),λn D=>by cases D⟩
    simp only[cond_false];rw[show ae oX (s,0,av5 (26:Int).toNat 0,())=_ from h1 e];rfl
   |some m=>
    obtain⟨J,f1,f2,f3,f4⟩:=h2 m e;refine⟨J,?_,by omega,f3,λn D=>by cases D;rw[f4,amw];omega⟩
    simp only[cond_false];rw[show ae oX (s,0,av5 (26:Int).toNat 0,())=_ from f1]
    have:0<s.length:=ay5.2 h0;grind
theorem aoU(w:aa)(h:w.length<=20000):iL w 5=some ((jI w).isSome):=by obtain⟨F,f1,_⟩:=J2 w h;unfold iL;simp[f1]
def aG(L:aD)(k:Nat):Int:=if 0<k then(L.2.2[k-1]?).getD 0 else 0
theorem bP(e:Int)(L:aD)(D:bD L)(k:Nat)(hk:k<=L.2.1.length):aZ e (L,(k:Int))=some (bV e L.1 (aG L k),()):=by
 unfold aZ aG;have F:=D.2.1;have J:=D.1;by_cases h:0<k
 ·simp only[K0];simp (disch:=omega) only[K0,show(k)-1=((k-1:Nat):Int) by omega,au4 (show k-1<L.2.2.length by omega)]
  rfl
 ·simp (disch:=omega) only[K0];rfl
theorem gN(c:Int)(L:aD)(D:bD L)(k:Nat)(hk:k<=L.2.1.length)(f:Int×Int)(hf:f=(0,0)):fb c (L,(k:Int),0,f)=some (L,(k:Int),c,L.1,aG L k):=by
 subst hf;unfold fb aG;have F:=D.2.1;have J:=D.1;simp only[decide_true];by_cases h:0<k
 ·simp only[K0];simp (disch:=omega) only[K0,show(k)-1=((k-1:Nat):Int) by omega,au4 (show k-1<L.2.2.length by omega)]
  rfl
 ·grind
def ou{β:Type}(T:aD×Int->Option ((β×(aD×Int)×Unit)⊕(Value×Unit)))(kind:Int)(ok:aa->Bool)(val:aa->β):Prop:=
 ∀(L:aD) (k:Nat),bD L->k<=L.2.1.length->
  (∃h:k<L.2.1.length,ok (L.2.1[k])=true/\T (L,(k:Int))=some (.inl (val (L.2.1[k]),(L,((k+1:Nat):Int)),()))/\eV kind (L,(k:Int),0,0,0)=some (L.2.1[k],(L,((k+1:Nat):Int),0,0,0)))\/
  (∃(c l D:Int) (F:Nat) (w:aa),¬c=0/\F<=L.2.1.length/\T (L,(k:Int))=some (.inr (bV c l D,()))/\eV kind (L,(k:Int),0,0,0)=some (w,(L,(F:Int),c,l,D)))
theorem qJ{β:Type}{T:aD×Int->Option ((β×(aD×Int)×Unit)⊕(Value×Unit))}{kind:Int}{ok:aa->Bool}{val:aa->β}(P:aa->Option (β×Bool))
  (hT:∀o,T o=(dS o).bind (λU=>match U with
   |.inl (w,o',_)=>(P w).bind λr=>bif !r.2 then(aZ 1 o').bind (λ(J,_)=>some (.inr (J,())))else some (.inl (r.1,o',()))
   |.inr (J,_)=>some (.inr (J,()))))
  (N:∀w,w.length<=20000->∃x,P w=some (x,ok w)/\(ok w=true->x=val w)) (M:∀w,w.length<=20000->iL w kind=some (ok w)):ou T kind ok val:=by
 intro L k D hk;by_cases h:k<L.2.1.length
 ·have hw:(L.2.1[k]).length<=20000:=by have:=(D.2.2 _ (at2 h)).2;omega
  obtain⟨x,O,Y⟩:=N _ hw;cases F:ok (L.2.1[k])with
  |true=>
   refine .inl ⟨h,F,?_,aoT kind L D k _ h (by grind)⟩
   rw[hT,me L D k h];grind
  |false=>
   refine .inr ⟨1,L.1,aG L (k+1),k+1,L.2.1[k],by decide,h,?_,?_⟩
   ·rw[hT,me L D k h];simp only[K0,O,F,bP 1 L D (k+1) h]
   ·unfold eV;simp only[qq L D k _ h,at0,bn,decide_true,cond_true,M _ hw,F,aw3,gN 1 L D (k+1) h _ rfl]
 ·refine .inr ⟨1,L.1,0,k,[],by decide,hk,?_,am9 kind L k _ h⟩
  rw[hT,Aq L k h,at0]
def fY(s:aa):Int:=(((jI s).getD 0:Nat):Int)
def pF(s:aa):Bool:=(jI s).isSome
theorem TC:ou CL 1 bQ id:=qJ Ea (λo=>rfl) (λw hw=>⟨w,ajd w hw,λ_=>rfl⟩) (λw hw=>SQ w hw)
theorem acV:ou IJ 2 dt id:=qJ EF (λo=>rfl) (λw hw=>⟨w,ajP w hw,λ_=>rfl⟩) (λw hw=>Tw w hw)
theorem SY:ou CI 1 bQ id:=qJ DN (λo=>rfl) (λw hw=>⟨w,aiG w hw,λ_=>rfl⟩) (λw hw=>SQ w hw)
theorem acq:ou IG 2 dt id:=qJ D9 (λo=>rfl) (λw hw=>⟨w,ai9 w hw,λ_=>rfl⟩) (λw hw=>Tw w hw)
theorem arX:ou PQ 7 mr id:=qJ D8 (λo=>rfl) (λw hw=>⟨w,ai8 w hw,λ_=>rfl⟩) (λw hw=>arS w hw)
theorem Z2:ou yt 3 cr aO:=qJ vT (λo=>rfl) (λw hw=>by
 rw[Qc w hw];unfold jG;cases h:cr w with
 |true=>grind
 |false=>exact⟨_,rfl,λh=>by cases h⟩) (λw hw=>YX w hw)
theorem arW:ou PW 4 jB kH:=qJ Ej (λo=>rfl) (λw hw=>by
 rw[ajp w hw];cases h:jB w with
 |true=>grind
 |false=>exact⟨_,rfl,λh=>by cases h⟩) (λw hw=>aqF w hw)
theorem SZ:ou yq 6 iC (λw=>(dz w:Int)):=qJ De (λo=>rfl) (λw hw=>by
 rw[ahx w];unfold iC;by_cases h:w.length=16/\w.all eM=true
 ·simp_all
 ·rw[if_neg h];cases h1:decide (w.length=16)&&w.all eM with
  |true=>grind
  |false=>exact⟨_,rfl,λh=>by cases h⟩) (λw hw=>acQ w)
theorem abm:ou IK 5 pF fY:=qJ EC (λo=>rfl) (λw hw=>by
 obtain⟨x,h1,h2⟩:=ajH w hw;refine⟨x,h1,λh=>?_⟩;unfold pF at h;unfold fY;cases e:jI w with
 |none=>grind
 |some n=>rw[h2 n e];rfl) (λw hw=>aoU w hw)
abbrev av:=aa×aa×ak
abbrev ep:=aa×List (List cY)×ak
def aX(n:av):ep:=(n.1,kH n.2.1,n.2.2)
def wO(F:Nat)(D:ak):Prop:=D.length<=F/\(∀f∈D,bQ f=true)/\D.Nodup
def wU(D:Nat)(n:av):Prop:=dt n.1=true/\jB n.2.1=true/\wO D n.2.2
theorem Mh(l:ak)(v:aa):cE l v=true<->v∈l:=by simp[cE]
theorem sk{l:ak}{v:aa}(h:cE l v=false):v∉l:=λg=>by rw[(Mh l v).2 g]at h;cases h
theorem nS{α:Type}{l:List α}{v:α}(h:l.Nodup)(D:v∉l):(l++[v]).Nodup:=by grind
theorem akz{F:Nat}{D:ak}{v:aa}(h:wO F D)(hm:¬D.length=F)(hp:bQ v=true)(J:v∉D):wO F (D++[v]):=by
 refine⟨by have:=h.1;simp;omega,λf hf=>?_,nS h.2.2 J⟩
 rcases av3.1 hf with hf|hf
 ·exact h.2.1 f hf
 ·grind
theorem zP(J:Int)(w rt:aa)(F:ak)(L:aD)(k c l D:Int)(hc:¬c=0):
  ae jR (J,[],[],w,rt,F,L.1,L.2.1,L.2.2,k,c,l,D,())=some ([],[],w,rt,F,L.1,L.2.1,L.2.2,k,c,l,D,()):=by
 rw[bI];by_cases hm:0<J
 ·simp (disch:=omega) only[K0,jR,qt ((L.1,L.2.1,L.2.2),k,c,l,D) hc]
 ·grind[jR]
theorem an8(D:Nat)(h1:1<=D)(h8:D<=8)(L:aD)(U:bD L)(w rt:aa)(O:List (List cY)):∀(n k:Nat) (seen:ak),L.2.1.length-k<=n->k<=L.2.1.length->wO D seen->
  (∃J,wO D J/\ae qe ((D:Int),[],w,O,seen,L.1,L.2.1,L.2.2,(k:Int),())=some (.inl ([],w,O,J,L.1,L.2.1,L.2.2,(L.2.1.length:Int),()))/\
   ae jR ((D:Int),[],[],w,rt,seen,L.1,L.2.1,L.2.2,(k:Int),0,0,0,())=some ([],[],w,rt,J,L.1,L.2.1,L.2.2,(L.2.1.length:Int),0,0,0,()))\/
  (∃(c l Z:Int) (k':Nat) (J:ak),¬c=0/\k'<=L.2.1.length/\ae qe ((D:Int),[],w,O,seen,L.1,L.2.1,L.2.2,(k:Int),())=some (.inr (bV c l Z,()))/\
   ae jR ((D:Int),[],[],w,rt,seen,L.1,L.2.1,L.2.2,(k:Int),0,0,0,())=some ([],[],w,rt,J,L.1,L.2.1,L.2.2,(k':Int),c,l,Z,())):=by
 have az:=U.2.1;have F:(0:Int)<(D:Int):=by omega
 have done:∀(seen:ak),wO D seen->(∃J,wO D J/\ae qe ((D:Int),[],w,O,seen,L.1,L.2.1,L.2.2,(L.2.1.length:Int),())=some (.inl ([],w,O,J,L.1,L.2.1,L.2.2,(L.2.1.length:Int),()))/\
   ae jR ((D:Int),[],[],w,rt,seen,L.1,L.2.1,L.2.2,(L.2.1.length:Int),0,0,0,())=some ([],[],w,rt,J,L.1,L.2.1,L.2.2,(L.2.1.length:Int),0,0,0,())):=by
  intro seen hs;refine⟨seen,hs,?_,?_⟩
  ·rw[bI];simp only[qe,dY F,cond_true];rw[show iZ ((L.1,L.2.1,L.2.2),((L.2.1.length:Nat):Int))=_ from fC L L.2.1.length,at0,dN (show¬L.2.1.length<L.2.1.length by omega)]
   rfl
  ·rw[bI];simp only[jR,dY F,cond_true];rw[show ky ((L.1,L.2.1,L.2.2),((L.2.1.length:Nat):Int),0,0,0)=_ from qn L L.2.1.length (0,0),at0,dN (show¬L.2.1.length<L.2.1.length by omega)]
   rfl
 intro n
 induction n with
 |zero=>grind
 |succ n ih=>
  intro k seen hn hk hs;by_cases M:k<L.2.1.length
  ·have e1:iZ ((L.1,L.2.1,L.2.2),(k:Int))=some (true,(L,(k:Int))):=by
     have:=fC L k;rw[dY M]at this;exact this
   have e2:ky ((L.1,L.2.1,L.2.2),(k:Int),0,0,0)=some (true,(L,(k:Int),0,0,0)):=by have:=qn L k (0,0);rw[dY M]at this;exact this
   rcases TC L k U hk with⟨_,hp,Y,hd⟩|⟨c,l,Z,k',w',hc,ar,Y,hd⟩
   ·simp only[id]at Y;have hlen:seen.length<=8:=by have:=hs.1;omega
    have ah:=KE seen (L.2.1[k]) (by omega)
    have an:=rQ seen (L.2.1[k]) (by omega)
    cases hi:cE seen L.2.1[k]with
    |true=>
     rw[hi]at ah an;refine .inr ⟨3,L.1,aG L (k+1),k+1,seen++[L.2.1[k]],by decide,M,?_,?_⟩
     ·rw[bI];simp only[qe,dY F,cond_true,e1,at0,Y,ah,bP 3 L U (k+1) M]
     ·have N:jR ((D:Int),[],[],w,rt,seen,L.1,L.2.1,L.2.2,(k:Int),0,0,0,())=some (.inl ((D:Int),[],[],w,rt,seen++[L.2.1[k]],L.1,L.2.1,L.2.2,((k+1:Nat):Int),3,L.1,aG L (k+1),())):=by
        simp only[jR,dY F,cond_true,e2,at0,hd,bn,decide_true,an,gN 3 L U (k+1) M (0,0) rfl,dN (show¬(3:Int)=0 by decide),cond_false]
        rw[ai (by simp only[av1,ay2];omega)]
      rw[bd N];exact zP _ _ _ _ L _ 3 _ _ (by decide)
    |false=>
     rw[hi]at ah an;by_cases hb:seen.length=D
     ·refine .inr ⟨2,L.1,aG L (k+1),k+1,seen++[L.2.1[k]],by decide,M,?_,?_⟩
      ·rw[bI];simp only[qe,dY F,cond_true,e1,at0,Y,ah,cond_false,dY (show(seen.length:Int)=(D:Int) by omega),bP 2 L U (k+1) M]
      ·have N:jR ((D:Int),[],[],w,rt,seen,L.1,L.2.1,L.2.2,(k:Int),0,0,0,())=some (.inl ((D:Int),[],[],w,rt,seen++[L.2.1[k]],L.1,L.2.1,L.2.2,((k+1:Nat):Int),2,L.1,aG L (k+1),())):=by
         simp only[jR,dY F,cond_true,e2,at0,hd,bn,decide_true,an,cond_false,dY (show(D:Int)<=(seen.length:Int) by omega),gN 2 L U (k+1) M (0,0) rfl]
         rw[ai (by simp only[av1,ay2];omega)]
       rw[bd N];exact zP _ _ _ _ L _ 2 _ _ (by decide)
     ·have N:qe ((D:Int),[],w,O,seen,L.1,L.2.1,L.2.2,(k:Int),())=some (.inl ((D:Int),[],w,O,seen++[L.2.1[k]],L.1,L.2.1,L.2.2,((k+1:Nat):Int),())):=by
         simp only[qe,dY F,cond_true,e1,at0,Y,ah,cond_false,dN (show¬(seen.length:Int)=(D:Int) by omega)]
         rw[ai (by simp only[av1,ay2];omega)]
      have e4:jR ((D:Int),[],[],w,rt,seen,L.1,L.2.1,L.2.2,(k:Int),0,0,0,())=some (.inl ((D:Int),[],[],w,rt,seen++[L.2.1[k]],L.1,L.2.1,L.2.2,((k+1:Nat):Int),0,0,0,())):=by
       have:=hs.1;simp only[jR,dY F,cond_true,e2,at0,hd,bn,decide_true,an,cond_false,dN (show¬(D:Int)<=(seen.length:Int) by omega)]
       rw[ai (by simp only[av1,ay2];omega)]
      rw[bd N,bd e4];exact ih (k+1) (seen++[L.2.1[k]]) (by omega) M (akz hs hb hp (sk hi))
   ·refine .inr ⟨c,l,Z,k',seen++[w'],hc,ar,?_,?_⟩
    ·rw[bI];simp only[qe,dY F,cond_true,e1,at0,Y]
    ·have hlen:seen.length<=8:=by have:=hs.1;omega
     have N:jR ((D:Int),[],[],w,rt,seen,L.1,L.2.1,L.2.2,(k:Int),0,0,0,())=some (.inl ((D:Int),[],[],w,rt,seen++[w'],L.1,L.2.1,L.2.2,(k':Int),c,l,Z,())):=by simp only[jR,dY F,cond_true,e2,at0,hd,bn,dN hc,cond_false];rw[ai (by simp only[av1,ay2];omega)]
     rw[bd N];exact zP _ _ _ _ L _ c _ _ hc
  ·have e:k=L.2.1.length:=by omega
   subst e;exact .inl (done seen hs)
theorem wJ(D:Int)(o:gT)(h:¬o.2.2.1=0):fx D o=some (([],[],[]),o):=by unfold fx;rw[jb 2 o h];simp[jb 4 o h];rw[zP D [] [] [] o.1 o.2.1 o.2.2.1 o.2.2.2.1 o.2.2.2.2 h];rfl
theorem MV(J:Nat)(h8:J<=8)(L:aD)(k:Nat)(U:bD L)(hk:k<=L.2.1.length):
  (∃n D,D<=L.2.1.length/\wU J n/\jS (J:Int) (L,(k:Int))=some (.inl (aX n,(L,((D:Nat):Int)),()))/\fx (J:Int) (L,(k:Int),0,0,0)=some (n,(L,((D:Nat):Int),0,0,0)))\/
  (∃(c l F:Int) (D:Nat) (n:av),¬c=0/\D<=L.2.1.length/\jS (J:Int) (L,(k:Int))=some (.inr (bV c l F,()))/\fx (J:Int) (L,(k:Int),0,0,0)=some (n,(L,(D:Int),c,l,F))):=by
 unfold jS fx;rcases acV L k U hk with⟨h1,hn,N,Y⟩|⟨c,l,F,D,w',hc,M,N,Y⟩
 ·simp only[id]at N;rcases arW L (k+1) U h1 with⟨h2,hr,Z,ah⟩|⟨c,l,F,D,w',hc,M,Z,ah⟩
  ·by_cases hm:J=0
   ·subst hm;refine .inl ⟨(L.2.1[k],L.2.1[k+1],[]),k+1+1,h2,⟨hn,hr,au2 _,(λf hf=>by cases hf),aA3⟩,?_,?_⟩
    ·rw[N];simp only[Z,at0];rw[bI];rfl
    ·simp_all[bI,jR]
   ·rcases an8 J (by omega) h8 L U (L.2.1[k]) (L.2.1[k+1]) (kH (L.2.1[k+1])) L.2.1.length (k+1+1) [] (by simp) h2 ⟨au2 _,(λf hf=>by cases hf),aA3⟩with⟨O,hf,e1,e2⟩|⟨c,l,F,D,O,hc,M,e1,e2⟩
    ·refine .inl ⟨(L.2.1[k],L.2.1[k+1],O),L.2.1.length,at9 _,⟨hn,hr,hf⟩,?_,?_⟩
     ·rw[N];simp only[Z,at0,e1];rfl
     ·grind
    ·refine .inr ⟨c,l,F,D,(L.2.1[k],L.2.1[k+1],O),hc,M,?_,?_⟩
     ·grind
     ·grind
  ·refine .inr ⟨c,l,F,D,(L.2.1[k],w',[]),hc,M,?_,?_⟩
   ·grind
   ·rw[Y];simp only[ah,at0];rw[zP J _ _ _ L D c l F hc];rfl
 ·refine .inr ⟨c,l,F,D,(w',[],[]),hc,M,?_,?_⟩
  ·grind
  ·rw[Y];simp[jb 4 (L,D,c,l,F) hc];rw[zP J _ _ _ L D c l F hc];rfl
theorem RG(a:aa)(c:UInt8):aW (a++[c])=aW a*10+(c.toNat-48):=by unfold aW;rw[List.foldl_append];rfl
theorem amS{c:UInt8}(h:bJ c=true):UInt8.ofNat (48+(c.toNat-48))=c:=by obtain⟨h1,h2⟩:=nV h;rw[show 48+(c.toNat-48)=c.toNat by omega,UInt8.ofNat_toNat]
theorem ZL:∀(n:Nat) (a:aa),a.length=n->a.all bJ=true->0<a.length->gQ a=true->b9 (aW a)=a:=by
 intro n
 induction n with
 |zero=>omega
 |succ n Z=>
  intro a U F h0 hh;have L:=ay5.1 h0;obtain⟨b,c,rfl⟩:∃b c,a=b++[c]:=⟨a.dropLast,a.getLast L,(List.dropLast_concat_getLast L).symm⟩;rw[List.all_append,au0]at F;obtain⟨J,hc⟩:=F;simp[List.all_nil]at hc;obtain⟨c1,c2⟩:=nV hc;by_cases D:b=[]
  ·subst D;rw[RG];rw[b9,dif_pos (show aW []*10+(c.toNat-48)<10 by show 0*10+(c.toNat-48)<10;omega)]
   have:aW []*10+(c.toNat-48)=c.toNat-48:=by show 0*10+(c.toNat-48)=_;omega
   simp_all
  ·have M:=ay5.2 D;have N:b.length=n:=by rw[au5,ay7]at U;omega
   obtain⟨x,t,rfl⟩:∃x t,b=x::t:=by cases b with|nil=>exact absurd rfl D|cons x t=>exact⟨x,t,rfl⟩
   have Y:x≠48:=by grind[gQ]
   have O:gQ (x::t)=true:=by unfold gQ;grind
   have ah:=Nat.le_trans (Nat.one_le_pow _ _ (by simp)) (abG J Y)
   rw[RG,b9,dif_neg (by omega),show(aW (x::t)*10+(c.toNat-48))/10=aW (x::t) by omega,show(aW (x::t)*10+(c.toNat-48))%10=c.toNat-48 by omega,Z (x::t) N J M O,amS hc]
theorem X7{a:aa}(h:du a=true):1<=a.length/\a.length<=6/\gQ a=true/\a.all bJ=true:=by grind[du]
theorem zB{a:aa}(h:du a=true):b9 (aW a)=a:=by obtain⟨h1,h2,D,F⟩:=X7 h;exact ZL _ a rfl F h1 D
theorem zy{a:aa}(h:du a=true):xm (aW a:Int)=true:=by
 obtain⟨h1,h2,F,D⟩:=X7 h;have:=FE a D;have J:10^a.length<=10^6:=aA8 (by simp) h2
 grind[xm]
theorem zc(c:UInt8):∀(s:aa),dj c (aw c s)=s
 |[]=>rfl
 |b::t=>by
  have D:=zc c t;show dj c (if b=c then[]::aw c t else match aw c t with|h::r=>(b::h)::r |[]=>[[b]])=b::t
  cases e:aw c t with
  |nil=>exact absurd e (mR c t)
  |cons h r=>
   rw[e]at D;by_cases F:b=c
   ·rw[if_pos F];show[]++c::dj c (h::r)=_;rw[D,F];rfl
   ·rw[if_neg F];show dj c ((b::h)::r)=b::t;cases r with
    |nil=>show b::h=b::t;rw[show t=h from D.symm]
    |cons y q=>show(b::h)++c::dj c (y::q)=b::t;rw[<-D];rfl
theorem alZ{c:UInt8}{s t:aa}(h:aw c s=aw c t):s=t:=by rw[<-zc c s,h,zc]
theorem am6(s:aa):s=s.take (al bG s 0)++(if al bG s 0<s.length then 45::s.drop (al bG s 0+1)else[]):=by
 by_cases h:al bG s 0<s.length
 ·rw[if_pos h];have h1:=abq bG s _ 0 rfl h;rw[wP s _ h]at h1;have h2:s[al bG s 0]=45:=by apply UInt8.toNat_inj.1;exact eq_of_beq h1
  have D:=av6 h;rw[h2]at D;rw[<-D,ax4]
 ·rw[if_neg h,aw5,List.take_of_length_le (by omega)]
theorem KY{s:aa}(h:cr s=true):kR (aO s)=s:=by
 obtain⟨a,b,c,e,D,F,hc⟩:=QM h;have J:aO s=(((aW a:Int),(aW b:Int),(aW c:Int)),s.drop (al bG s 0+1)):=by unfold aO;rw[e]
 have N:s.take (al bG s 0)=a++46::b++46::c:=by rw[<-zc 46 (s.take (al bG s 0)),e];show a++46::(b++46::c)=_;rw[aw9];rfl
 have hs:=am6 s;by_cases hm:al bG s 0<s.length
 ·have hp:=Ry h hm;rw[if_pos hm]at hs;have O:s.drop (al bG s 0+1)≠[]:=by intro g;rw[g]at hp;exact absurd hp (by decide)
  have L:pC (aO s)=true:=by rw[J];unfold pC;simp only[K0,zy D,zy F,zy hc,hp]
  unfold kR;rw[J];simp only[K0,zB D,zB F,zB hc];grind
 ·rw[if_neg hm]at hs;have M:s.drop (al bG s 0+1)=[]:=az3 (by omega)
  have L:pC (aO s)=true:=by rw[J,M];unfold pC;simp only[zy D,zy F,zy hc];rfl
  unfold kR;rw[J];simp only[K0,zB D,zB F,zB hc];grind
theorem Lt{s t:aa}(hs:cr s=true)(D:cr t=true)(h:aO s=aO t):s=t:=by rw[<-KY hs,h,KY D]
theorem ane{s:aa}(h:cr s=true):pC (aO s)=true:=by
 have h1:=KY h;cases e:pC (aO s)with
 |true=>rfl
 |false=>unfold kR at h1;rw[e]at h1;have:s=[]:=h1.symm;subst this;exact absurd h (by decide)
theorem rS:∀{a b:aa},cI a b=0->a=b
 |[],[],_=>rfl
 |[],y::t,h=>by rw[ab7]at h;exact absurd h (by simp)
 |x::s,[],h=>by rw[ab9]at h;exact absurd h (by simp)
 |x::s,y::t,h=>by
  rw[Ml]at h;split at h
  ·rename_i h1;have h2:x=y:=by apply UInt8.toNat_inj.1;have:=ig.1 h1;omega
   rw[h2,rS h]
  ·omega
theorem aqo{a b:aa}:cI a b=0<->a=b:=⟨rS,λh=>by rw[h,Ln]⟩
theorem ali{a b:aa}(h:gl a b=0):a=b:=by
 unfold gl at h;split at h
 ·omega
 ·split at h
  ·omega
  ·split at h
   ·rename_i h1;have:=ig.1 h;exact absurd (by omega) h1.2
   ·exact rS h
theorem QG{α:Type}{q:α->α->Int}(D:∀x y,q x y=0->x=y):∀{l m:List α},bY q l m=0->l.length=m.length->l=m
 |[],[],_,_=>rfl
 |[],y::t,_,h=>by simp at h
 |x::s,[],_,h=>by simp at h
 |x::s,y::t,h,F=>by
  unfold bY at h;split at h
  ·rename_i h1;rw[D x y h1,QG D h (by grind)]
  ·omega
theorem amq{l m:ak}(h:nh l m=0):l=m:=by
 unfold nh at h;split at h
 ·rename_i h1;exact QG (λx y=>ali) h1 (by have:=ig.1 h;omega)
 ·omega
theorem YQ{a b:cN}(h:eL a b=0):a=b:=by
 unfold eL at h;split at h
 ·rename_i h1;have h2:=QG (q:=aK) (λx y=>ig.1) h1 rfl;obtain⟨⟨F,a2,a3⟩,ap⟩:=a;obtain⟨⟨J,L,M⟩,D⟩:=b;simp only[jj]at h2;obtain⟨N,O,U⟩:=h2
  have Y:ap=D:=by
   split at h
   ·omega
   ·split at h
    ·omega
    ·split at h
     ·omega
     ·exact alZ (amq h)
  grind
 ·omega
theorem amV(a:cN):eL a a=0:=by unfold eL;rw[QH (λx=>ig.2 rfl),if_pos rfl,if_pos rfl]
theorem Ef{s:aa}(h:s.length<=20000):(aO s).2.length<=20000:=by grind[aO]
def bC{α:Type}(l:List α)(p:α->Bool):Int:=match l.findIdx? p with|some k=>(k:Int)|none=> -1
theorem jc{V R α:Type}{f:V->Option (V⊕R)}(l:List α)(p:α->Bool)(st:Nat->V)(a:Nat->R)(b:R)
  (h1:∀k (h:k<l.length),p l[k]=false->f (st k)=some (.inl (st (k+1))))
  (h2:∀k (h:k<l.length),p l[k]=true->f (st k)=some (.inr (a k)))
  (J:f (st l.length)=some (.inr b)):ae f (st 0)=some (match l.findIdx? p with|some k=>a k|none=>b):=by
 have:∀n k,l.length-k=n->k<=l.length->ae f (st k)=some (match(l.drop k).findIdx? p with|some j=>a (k+j)|none=>b):=by
  intro n
  induction n with
  |zero=>grind[bI]
  |succ n F=>
   intro k L hk;have D:k<l.length:=by omega
   rw[av6 D,List.findIdx?_cons];cases hp:p l[k]with
   |true=>grind[bI]
   |false=>
    rw[bd (h1 k D hp),F (k+1) (by omega) (by omega)]
    cases(List.drop (k+1) l).findIdx? p with
    |none=>rfl
    |some j=>grind
 grind
theorem kD{α:Type}(l:List α)(p:α->Bool):(l.any p=false/\bC l p= -1)\/∃k,∃h:k<l.length,l.findIdx? p=some k/\bC l p=(k:Int)/\p l[k]=true/\l.any p=true:=by
 rw[<-List.findIdx?_isSome];unfold bC;cases h:l.findIdx? p with
 |none=>grind
 |some k=>obtain⟨h1,h2,_⟩:=List.findIdx?_eq_some_iff_getElem.1 h;grind
theorem pb{α:Type}(l:List α)(p:α->Bool)(i:Decidable (0<=bC l p)): @decide (0<=bC l p) i=l.any p:=by
 rcases kD l p with⟨h1,h2⟩|⟨k,_,_,h2,_,h1⟩
 ·grind
 ·grind
abbrev fk:=aa×List av
abbrev xg:=aa×List ep
abbrev bN:=aa×aa×aa×aa×Bool×List av×List av×List fk
abbrev nH:=aa×cN×Int×Int×Bool×List ep×List ep×List xg
def ff(f:fk):xg:=(f.1,f.2.map aX)
def cZ(e:bN):nH:=(e.1,aO e.2.1,(dz e.2.2.1:Int),fY e.2.2.2.1,e.2.2.2.2.1,e.2.2.2.2.2.1.map aX,e.2.2.2.2.2.2.1.map aX,e.2.2.2.2.2.2.2.map ff)
structure dM(e:bN):Prop where
 name:dt e.1=true
 cD:cr e.2.1=true
 HQ:iC e.2.2.1=true
 HH:pF e.2.2.2.1=true
 sB:e.2.2.2.2.2.1.length<=4
 Bf:∀n∈e.2.2.2.2.2.1,wU 0 n
 AA:e.2.2.2.2.2.2.1.length<=8
 eF:∀n∈e.2.2.2.2.2.2.1,wU 4 n
 kJ:e.2.2.2.2.2.2.2.length<=4
 sx:∀f∈e.2.2.2.2.2.2.2,bQ f.1=true/\f.2.length<=8/\∀n∈f.2,wU 4 n
 ME:(e.2.2.2.2.2.2.2.map (·.1)).Nodup
 short:e.1.length<=80/\e.2.1.length<=80/\e.2.2.2.1.length<=80
structure eC where
 src:aa
 em:Bool
 l:List bN
 n:aa
 v:aa
 d:aa
 b:aa
 y:Bool
 bs:List av
 ns:List av
 em1:Bool
 fl:List fk
 fn:aa
 fns:List av
def cH(S:eC):List fk:=bif S.em1 then[]else S.fl++[(S.fn,S.fns)]
def sA(S:eC):bN:=(S.n,S.v,S.d,S.b,S.y,S.bs,S.ns,cH S)
def eo(S:eC):List bN:=bif S.em then[]else S.l++[sA S]
structure j7(S:eC):Prop where
 src:bQ S.src=true
 dp:∀e∈eo S,dM e
 many:(eo S).length<=60
 once:((eo S).map λe=>(e.1,e.2.1)).Nodup
 lB:S.l.length<=1000
 OJ:S.fl.length<=100
theorem TW(S:eC):(bif S.em1 then[]else(S.fl.map ff++[(S.fn,S.fns.map aX)]))=(cH S).map ff:=by
 unfold cH;cases S.em1 with
 |true=>rfl
 |false=>simp[aw1];rfl
theorem adf(S:eC):(bif S.em then[]else(S.l.map cZ++[(S.n,(((aO S.v).1.1,(aO S.v).1.2.1,(aO S.v).1.2.2),(aO S.v).2),(dz S.d:Int),fY S.b,S.y,S.bs.map aX,S.ns.map aX,(cH S).map ff)]))=(eo S).map cZ:=by
 unfold eo;cases S.em with
 |true=>rfl
 |false=>simp[aw1];rfl
theorem adg(S:eC):(bif S.em then 0 else S.l.length+1)=(eo S).length:=by grind[eo]
theorem kJ(S:eC):(bif S.em1 then 0 else S.fl.length+1)=(cH S).length:=by grind[cH]
def jY(n v:aa)(e:bN):Bool:=decide (e.1=n)&&decide (e.2.1=v)
theorem apu(a b:nH)(D:a.2.1.2.length<=20000)(F:b.2.1.2.length<=20000):KC a b=some (if cI a.1 b.1=0 then eL a.2.1 b.2.1 else cI a.1 b.1):=by
 unfold KC;simp[DE,Je _ _ D F];by_cases h:cI a.1 b.1=0
 ·grind
 ·grind
theorem aal(e:bN)(he:dM e)(n v:aa)(F:cr v=true)(hs:v.length<=80)(x:nH)(D:x.1=n/\x.2.1=aO v):IT (cZ e) x=some (jY n v e):=by
 unfold IT;have h1:=Ef (s:=e.2.1) (by have:=he.short.2.1;omega)
 have h2:x.2.1.2.length<=20000:=by rw[D.2];exact Ef (by omega)
 rw[apu x (cZ e) h2 h1,D.1,D.2];show some (decide ((if cI n e.1=0 then eL (aO v) (aO e.2.1)else cI n e.1)=0))=_
 unfold jY;by_cases c1:e.1=n
 ·rw[dY c1,if_pos (by rw[c1];exact Ln n),az4]
  by_cases c2:e.2.1=v
  ·rw[dY c2,dY (by rw[c2];exact amV _)]
  ·rw[dN c2,dN (λg=>c2 (Lt he.cD F (YQ g).symm))]
 ·have:¬cI n e.1=0:=λg=>c1 (rS g).symm;simp (disch:=omega) only[K0]
theorem ajr(l:List bN)(D:∀e∈l,dM e)(M:l.length<=1000)(n v:aa)(F:cr v=true)(hs:v.length<=80)(x:nH)(J:x.1=n/\x.2.1=aO v):
  Im (l.map cZ) x=some (l.any (jY n v)):=by
 have h:=jc (f:=yj) l (jY n v) (λk=>(l.map cZ,x,l.length,k,())) (λk=>au8 (k,())) (au6 ())
  (λk h hp=>by
   have L:k<(l.map cZ).length:=by grind
   simp (disch:=omega) only[K0,yj,ax8,aal l[k] (D _ (at2 h)) n v F hs x J,hp])
  (λk h hp=>by
   have L:k<(l.map cZ).length:=by grind
   simp (disch:=omega) only[K0,yj,ax8,aal l[k] (D _ (at2 h)) n v F hs x J,hp])
  (by simp only[yj,dN (show¬l.length<(l.length:Int) by omega),cond_false])
 unfold Im Pr;have h':ae yj (l.map cZ,x,((l.map cZ).length),0,())=some (match l.findIdx? (jY n v)with|some k=>au8 (k,())|none=>au6 ()):=by rw[au1];exact h
 rw[h'];rw[<-List.findIdx?_isSome];cases l.findIdx? (jY n v)with
 |none=>rfl
 |some k=>simp
theorem Tx(x:nH)(s:aa)(D:x.2.2.2.2.2.2.2.length<=1000):tA x s=some (bC x.2.2.2.2.2.2.2 λf=>decide (f.1=s)):=by
 have h:=jc (f:=C6) x.2.2.2.2.2.2.2 (λf=>decide (f.1=s)) (λk=>(s,x.2.2.2.2.2.2.2,x.2.2.2.2.2.2.2.length,k,())) (λk=>au8 (k,())) (au6 ())
  (λk h hp=>by have hp:=of_decide_eq_false hp;simp (disch:=omega) only[K0,C6])
  (λk h hp=>by have hp:=of_decide_eq_true hp;simp (disch:=omega) only[K0,C6])
  (by simp[C6])
 grind[tA,bC]
theorem mQ(n m:Int)(L:aD)(D:bD L)(k:Nat)(hk:k<=L.2.1.length):fy n m (L,(k:Int),0,0,0)=some (if m<=n then(L,(k:Int),2,L.1,aG L k)else(L,(k:Int),0,0,0)):=by
 unfold fy;simp[bn];by_cases h:m<=n
 ·simp (disch:=omega) only[K0,gN 2 L D k hk (0,0) rfl]
 ·grind
theorem ap9(l:List bN)(c:bN)(k:Nat)(h:k<(l++[c]).length):(l++[c])[k]=if h2:k<l.length then l[k]else c:=by grind
theorem Xi(src n v:aa)(l:List bN)(M N J F:aa)(O:Bool)(bs ns:List av)(em1:Bool)(fl:List fk)(fn:aa)(fns:List av)(L:aD)(U c li D:Int)(hc:¬c=0)(hl:l.length<=1000):
  ∀(j k:Nat),l.length+1-k=j->k<=l.length+1->
  ae nR ((k:Int),src,[],n,v,[],[],false,l,M,N,J,F,O,L.1,L.2.1,L.2.2,U,c,li,D,bs,ns,em1,fl,fn,fns,())=some (src,[],n,v,[],[],false,l,M,N,J,F,O,L.1,L.2.1,L.2.2,U,c,li,D,bs,ns,em1,fl,fn,fns,()):=by
 intro j
 induction j with
 |zero=>grind[bI,nR]
 |succ j Y=>
  intro k Z hk;have e:nR (k,src,[],n,v,[],[],false,l,M,N,J,F,O,L.1,L.2.1,L.2.2,U,c,li,D,bs,ns,em1,fl,fn,fns,())=some (.inl ((k+1),src,[],n,v,[],[],false,l,M,N,J,F,O,L.1,L.2.1,L.2.2,U,c,li,D,bs,ns,em1,fl,fn,fns,())):=by simp (disch:=omega) only[K0,nR,bn]
  rw[bd e];exact Y (k+1) (by omega) (by omega)
theorem QS(e:bN)(n v:aa):Fq e n v=some (jY n v e):=by grind[Fq,jY]
theorem amN(src n v:aa)(l:List bN)(M N J F:aa)(O:Bool)(bs ns:List av)(em1:Bool)(fl:List fk)(fn:aa)(fns:List av)(L:aD)(U:bD L)(D:Nat)(Y:D<=L.2.1.length)(hl:l.length<=1000)
  (cur:bN) (Z:cur=(M,N,J,F,O,bs,ns,(bif em1 then[]else(fl++[(fn,fns)])))):
  ∀(j k:Nat),l.length+1-k=j->k<=l.length+1->
  ae nR ((k:Int),src,[],n,v,[],[],false,l,M,N,J,F,O,L.1,L.2.1,L.2.2,(D:Int),0,0,0,bs,ns,em1,fl,fn,fns,())=some (
   if((l++[cur]).drop k).any (jY n v)=true then(src,[],n,v,[],[],false,l,M,N,J,F,O,L.1,L.2.1,L.2.2,(D:Int),3,L.1,aG L D,bs,ns,em1,fl,fn,fns,())
   else(src,[],n,v,[],[],false,l,M,N,J,F,O,L.1,L.2.1,L.2.2,(D:Int),0,0,0,bs,ns,em1,fl,fn,fns,())):=by
 intro j
 induction j with
 |zero=>
  intro k hj hk;have e:(l++[cur]).drop k=[]:=az3 (by simp;omega)
  rw[bI,e];simp only[nR,cond_false,dN (show¬(k:Int)<((l.length+1:Nat):Int) by omega),List.any_nil,av7,if_false]
 |succ j ih=>
  intro k hj hk;have ah:k<(l++[cur]).length:=by simp;omega
  rw[av6 ah,aD7,ap9]
  have e:nR ((k:Int),src,[],n,v,[],[],false,l,M,N,J,F,O,L.1,L.2.1,L.2.2,(D:Int),0,0,0,bs,ns,em1,fl,fn,fns,())=some (.inl (
    if jY n v (if h2:k<l.length then l[k]else cur)=true then(((k+1:Nat):Int),src,[],n,v,[],[],false,l,M,N,J,F,O,L.1,L.2.1,L.2.2,(D:Int),3,L.1,aG L D,bs,ns,em1,fl,fn,fns,())
    else(((k+1:Nat):Int),src,[],n,v,[],[],false,l,M,N,J,F,O,L.1,L.2.1,L.2.2,(D:Int),0,0,0,bs,ns,em1,fl,fn,fns,()))):=by
   simp only[nR,cond_false,dY (show(k:Int)<((l.length+1:Nat):Int) by omega),cond_true,bn,at0,decide_true,aw3,F4]
   simp (disch:=omega) only[K0,QS];by_cases h2:k<l.length
   ·rw[dif_pos h2];simp only[dN (show¬(k:Int)=(l.length:Int) by omega),cond_false,av0,au4 h2,at0,QS]
    cases hs:jY n v l[k]with
    |true=>simp only[cond_true,gN 3 L U D Y (0,0) rfl,at0,aS,aC (show k+1<=4611686018427387904 by omega),if_true]
    |false=>simp only[cond_false,aS,aC (show k+1<=4611686018427387904 by omega),av7,if_false]
   ·rw[dif_neg h2];simp only[dY (show(k:Int)=(l.length:Int) by omega),cond_true,QS,<-Z,at0]
    cases hs:jY n v cur with
    |true=>simp only[cond_true,gN 3 L U D Y (0,0) rfl,at0,aS,aC (show k+1<=4611686018427387904 by omega),if_true]
    |false=>simp only[cond_false,aS,aC (show k+1<=4611686018427387904 by omega),av7,if_false]
  cases hs:jY n v (if h2:k<l.length then l[k]else cur)with
  |true=>
   rw[hs,if_pos rfl]at e;rw[bd e,Xi src n v l M N J F O bs ns em1 fl fn fns L (D:Int) 3 L.1 (aG L D) (by decide) hl j (k+1) (by omega) (by omega)]
   rfl
  |false=>
   rw[hs,if_neg (by decide)]at e
   rw[bd e,Bool.false_or];exact ih (k+1) (by omega) (by omega)
def jX{R:Type}(f:aa->Bool->List nH->aa->Int->Int->Int->aa->Int->Int->Bool->(aD×Int)->List ep->List ep->Bool->List xg->aa->List ep->R)(S:eC)(r:aD×Int):R:=
 f S.src S.em (S.l.map cZ) S.n (aO S.v).1.1 (aO S.v).1.2.1 (aO S.v).1.2.2 (aO S.v).2 (dz S.d:Int) (fY S.b) S.y r (S.bs.map aX) (S.ns.map aX) S.em1 (S.fl.map ff) S.fn (S.fns.map aX)
def so(S:eC)(r:aD×Int):aa×Bool×List nH×aa×Int×Int×Int×aa×Int×Int×Bool×(aD×Int)×List ep×List ep×Bool×List xg×aa×List ep×Unit:=
 (S.src,S.em,S.l.map cZ,S.n,(aO S.v).1.1,(aO S.v).1.2.1,(aO S.v).1.2.2,(aO S.v).2,(dz S.d:Int),fY S.b,S.y,r,S.bs.map aX,S.ns.map aX,S.em1,S.fl.map ff,S.fn,S.fns.map aX,())
def FV{R:Type}(f:aa->Bool->List bN->aa->aa->aa->aa->Bool->gT->List av->List av->Bool->List fk->aa->List av->R)(S:eC)(o:gT):R:=
 f S.src S.em S.l S.n S.v S.d S.b S.y o S.bs S.ns S.em1 S.fl S.fn S.fns
def acO(S:eC)(o:gT):aa×Bool×List bN×aa×aa×aa×aa×Bool×gT×List av×List av×Bool×List fk×aa×List av:=
 (S.src,S.em,S.l,S.n,S.v,S.d,S.b,S.y,o,S.bs,S.ns,S.em1,S.fl,S.fn,S.fns)
theorem Gj{α β:Type}(p:α×β):(p.1,p.2)=p:=rfl
def nd{A B:Type}(r:Option (A⊕(Value×B)))(v:Value):Prop:=match r with|some (.inr x)=>x.1=v|_=>False
theorem mh{A B:Type}{r:Option (A⊕(Value×B))}{v:Value}(h:nd r v):∃b,r=some (.inr (v,b)):=by
 unfold nd at h;split at h
 ·grind
 ·grind
def sE{A:Type}(r:Option A)(p:A->Prop):Prop:=match r with|some x=>p x|none=>False
theorem od{A:Type}{r:Option A}{p:A->Prop}(h:sE r p):∃x,r=some x/\p x:=by
 unfold sE at h;split at h
 ·grind
 ·grind
theorem RR(S:eC)(J:S.l.length<=1000)(n v:aa)(L:aD)(F c li D:Int)(hc:¬c=0):
  ae nR (0,S.src,[],n,v,[],[],S.em,S.l,S.n,S.v,S.d,S.b,S.y,L.1,L.2.1,L.2.2,F,c,li,D,S.bs,S.ns,S.em1,S.fl,S.fn,S.fns,())=some (S.src,[],n,v,[],[],S.em,S.l,S.n,S.v,S.d,S.b,S.y,L.1,L.2.1,L.2.2,F,c,li,D,S.bs,S.ns,S.em1,S.fl,S.fn,S.fns,()):=by
 cases he:S.em with
 |true=>simp[bI,nR]
 |false=>exact Xi S.src n v S.l S.n S.v S.d S.b S.y S.bs S.ns S.em1 S.fl S.fn S.fns L F c li D hc J _ 0 rfl (au2 _)
theorem amO(S:eC)(J:S.l.length<=1000)(n v:aa)(L:aD)(F:bD L)(D:Nat)(hk:D<=L.2.1.length):
  ae nR (0,S.src,[],n,v,[],[],S.em,S.l,S.n,S.v,S.d,S.b,S.y,L.1,L.2.1,L.2.2,(D:Int),0,0,0,S.bs,S.ns,S.em1,S.fl,S.fn,S.fns,())=some (
   if(eo S).any (jY n v)=true then(S.src,[],n,v,[],[],S.em,S.l,S.n,S.v,S.d,S.b,S.y,L.1,L.2.1,L.2.2,(D:Int),3,L.1,aG L D,S.bs,S.ns,S.em1,S.fl,S.fn,S.fns,())
   else(S.src,[],n,v,[],[],S.em,S.l,S.n,S.v,S.d,S.b,S.y,L.1,L.2.1,L.2.2,(D:Int),0,0,0,S.bs,S.ns,S.em1,S.fl,S.fn,S.fns,())):=by
 unfold eo;cases he:S.em with
 |true=>rfl
 |false=>have:=amN S.src n v S.l S.n S.v S.d S.b S.y S.bs S.ns S.em1 S.fl S.fn S.fns L F D hk J (sA S) rfl _ 0 rfl (au2 _);rw[ax7]at this;grind
theorem wX{L:aD}(D:bD L){k:Nat}(h:k<L.2.1.length):(L.2.1[k]).length<=80:=(D.2.2 _ (at2 h)).2
theorem RQ{S D:eC}(h1:D.em=false)(h2:D.l=eo S):eo D=eo S++[sA D]:=by grind[eo]
theorem aox(S:eC)(U:j7 S)(L:aD)(J:bD L)(k:Nat)(hk:k<=L.2.1.length):
  (∃Z D,j7 Z/\Z.em=false/\D<=L.2.1.length/\jX Da S (L,(k:Int))=some (.inl (so Z (L,((D:Nat):Int))))/\FV E1 S (L,(k:Int),0,0,0)=some (acO Z (L,((D:Nat):Int),0,0,0)))\/
  (∃(c l F:Int) (D:Nat),¬c=0/\D<=L.2.1.length/\nd (jX Da S (L,(k:Int))) (bV c l F)/\sE (FV E1 S (L,(k:Int),0,0,0)) λt=>t.2.2.2.2.2.2.2.2.1=(L,(D:Int),c,l,F)):=by
 have hl:=U.lB;have N:S.l.length+2<=1000000000:=by omega
 unfold jX FV Da E1;simp only[au1,adg S,TW S,adf S,mQ _ _ L J k hk,at0];by_cases bx:(eo S).length=60
 ·refine .inr ⟨2,L.1,aG L k,k,by decide,hk,?_,?_⟩
  ·simp only[dY (show((eo S).length:Int)=60 by omega),cond_true,bP 2 L J k hk,at0];rfl
  ·have hc:¬(2:Int)=0:=by decide
   simp only[if_pos (show(60:Int)<=((eo S).length:Int) by omega),jb _ (L,(k:Int),2,L.1,aG L k) hc,at0,RR S hl _ _ L (k:Int) 2 L.1 (aG L k) hc,Gj,qt (L,(k:Int),2,L.1,aG L k) hc,cond_false]
   rw[ai N];rfl
 ·have hm:=U.many;simp only[dN (show¬((eo S).length:Int)=60 by omega),cond_false,if_neg (show¬(60:Int)<=((eo S).length:Int) by omega)]
  rcases acV L k J hk with⟨h1,hn,ah,an⟩|⟨c,l,F,D,w',hc,O,ah,an⟩
  ·simp only[id]at ah;simp only[ah,an,at0];rcases Z2 L (k+1) J h1 with⟨h2,hv,a1,ar⟩|⟨c,l,F,D,w',hc,O,a1,ar⟩
   ·have bp:=ajr (eo S) U.dp (by omega) (L.2.1[k]) (L.2.1[k+1]) hv (wX J h2) (L.2.1[k],aO (L.2.1[k+1]),0,0,false,[],[],[]) ⟨rfl,rfl⟩
    have bb:=amO S hl (L.2.1[k]) (L.2.1[k+1]) L J (k+1+1) h2;simp only[a1,ar,at0,bp,bb];cases a8:(eo S).any (jY (L.2.1[k]) (L.2.1[k+1]))with
    |true=>
     refine .inr ⟨3,L.1,aG L (k+1+1),k+1+1,by decide,h2,?_,?_⟩
     ·simp only[cond_true,bP 3 L J (k+1+1) h2,at0];rfl
     ·have hc:¬(3:Int)=0:=by decide
      simp only[if_true,Gj,jb _ (L,((k+1+1:Nat):Int),3,L.1,aG L (k+1+1)) hc,at0,qt (L,((k+1+1:Nat):Int),3,L.1,aG L (k+1+1)) hc,cond_false];rw[ai N];rfl
    |false=>
     simp only[av7,if_false,cond_false,Gj];rcases SZ L (k+1+1) J h2 with⟨h3,hd,a6,az⟩|⟨c,l,F,D,w',hc,O,a6,az⟩
     ·simp only[a6,az,at0];rcases abm L (k+1+1+1) J h3 with⟨h4,hb,a7,aE⟩|⟨c,l,F,D,w',hc,O,a7,aE⟩
      ·simp only[a7,aE,at0]
       have ok:∀y,j7 {src:=S.src,em:=false,l:=eo S,n:=L.2.1[k],v:=L.2.1[k+1],d:=L.2.1[k+1+1],b:=L.2.1[k+1+1+1],y:=y,bs:=[],ns:=[],em1:=true,fl:=[],fn:=[],fns:=[]}:=by
        intro y;refine⟨U.src,?_,?_,?_,by show(eo S).length<=1000;omega,au2 _⟩
        ·rw[RQ (S:=S) rfl rfl];intro e he;rcases av3.1 he with he|he
         ·exact U.dp e he
         ·rw[aw0.1 he];exact⟨hn,hv,hd,hb,au2 _,(λn h=>by cases h),au2 _,(λn h=>by cases h),au2 _,(λn h=>by cases h),aA3,⟨wX J h1,wX J h2,wX J h4⟩⟩
        ·rw[RQ (S:=S) rfl rfl,au5,ay7];omega
        ·rw[RQ (S:=S) rfl rfl,aw1];refine nS U.once (λg=>?_);obtain⟨e,he,g2⟩:=ax1.1 g;have:(eo S).any (jY (L.2.1[k]) (L.2.1[k+1]))=true:=by rw[aH3];have g3:e.1=L.2.1[k]/\e.2.1=L.2.1[k+1]:=Prod.mk.inj g2;exact⟨e,he,by unfold jY;rw[dY g3.1,dY g3.2];rfl⟩
         rw[a8]at this;cases this
       by_cases Y:∃h:k+1+1+1+1<L.2.1.length,L.2.1[k+1+1+1+1]=Fl
       ·obtain⟨M,Y⟩:=Y;refine .inl ⟨_,k+1+1+1+1+1,ok true,rfl,M,?_,?_⟩
        ·simp only[asC Fl L J _ M Y,at0];rw[ai N];rfl
        ·have b0:=J.2.1;simp only[qn L (k+1+1+1+1) (0,0),dY M,at0,cond_true,aI M,dY Y,aS,aC (show k+1+1+1+1+1<=4611686018427387904 by omega)]
         rw[ai N];rfl
       ·refine .inl ⟨_,k+1+1+1+1,ok false,rfl,h4,?_,?_⟩
        ·simp only[atb Fl L J _ (λM g=>Y ⟨M,g⟩),at0];rw[ai N];rfl
        ·simp only[qn L (k+1+1+1+1) (0,0),at0];by_cases M:k+1+1+1+1<L.2.1.length
         ·simp only[dY M,cond_true,aI M,dN (λg=>Y ⟨M,g⟩),cond_false];rw[ai N];rfl
         ·simp only[dN M,cond_false];rw[ai N];rfl
      ·refine .inr ⟨c,l,F,D,hc,O,?_,?_⟩
       ·simp only[a7,at0];rfl
       ·simp only[aE,at0,qt (L,(D:Int),c,l,F) hc,cond_false];rw[ai N];rfl
     ·refine .inr ⟨c,l,F,D,hc,O,?_,?_⟩
      ·simp only[a6,at0];rfl
      ·simp only[az,at0,jb _ (L,(D:Int),c,l,F) hc,qt (L,(D:Int),c,l,F) hc,cond_false];rw[ai N];rfl
   ·refine .inr ⟨c,l,F,D,hc,O,?_,?_⟩
    ·simp only[a1,at0];rfl
    ·simp only[ar,at0,RR S hl _ _ L (D:Int) c l F hc,Gj,jb _ (L,(D:Int),c,l,F) hc,qt (L,(D:Int),c,l,F) hc,cond_false];rw[ai N];rfl
  ·refine .inr ⟨c,l,F,D,hc,O,?_,?_⟩
   ·simp only[ah,at0];rfl
   ·simp only[an,at0,RR S hl _ _ L (D:Int) c l F hc,Gj,jb _ (L,(D:Int),c,l,F) hc,qt (L,(D:Int),c,l,F) hc,cond_false];rw[ai N];rfl
theorem j7.cur{S:eC}(h:j7 S)(he:S.em=false):dM (sA S):=h.dp _ (by unfold eo;rw[he];simp)
theorem j7.Ng{S D:eC}(h:j7 S)(he:S.em=false)(N:D.em=false)(hs:D.src=S.src)(L:D.l=S.l)(O:D.n=S.n)(U:D.v=S.v)(M:D.fl.length<=100)(hc:dM (sA D)):j7 D:=by
 have J:eo S=S.l++[sA S]:=by unfold eo;rw[he];rfl
 have F:eo D=S.l++[sA D]:=by unfold eo;rw[N,L];rfl
 refine⟨by rw[hs];exact h.src,?_,?_,?_,by rw[L];exact h.lB,M⟩
 ·rw[F];intro e g;rcases av3.1 g with g|g
  ·exact h.dp e (by grind)
  ·grind
 ·have:=h.many;rw[J,au5]at this;rw[F,au5];exact this
 ·have:=h.once;rw[J]at this;rw[F];have Y:([sA D].map λe=>(e.1,e.2.1))=[sA S].map λe=>(e.1,e.2.1):=by show[(D.n,D.v)]=[(S.n,S.v)];rw[O,U]
  grind
def ui(S:eC)(w:aa)(o:gT):=y6 S.n S.v S.d S.b S.y w S.bs S.ns S.em1 S.fl S.fn S.fns o
def MJ(S:eC)(w:aa)(o:gT):=Kb S.n S.v S.d S.b S.y w S.bs S.ns S.em1 S.fl S.fn S.fns o
def Nb(S:eC)(o:gT):aa×aa×aa×aa×Bool×List av×List av×Bool×List fk×aa×List av×gT:=
 (S.n,S.v,S.d,S.b,S.y,S.bs,S.ns,S.em1,S.fl,S.fn,S.fns,o)
theorem lu{α:Type}{l:List α}{x:α}{p:α->Prop}(h:∀y∈l,p y)(D:p x):∀y∈l++[x],p y:=by grind
def Ar{A B:Type}(S:eC)(L:aD)(p:Option (aa×Bool×List nH×aa×Int×Int×Int×aa×Int×Int×Bool×(aD×Int)×List ep×List ep×Bool×List xg×aa×List ep×Unit⊕(Value×B)))(d:Option (aa×aa×aa×aa×Bool×List av×List av×Bool×List fk×aa×List av×gT)):Prop:=
 (∃D F,j7 D/\D.em=false/\D.src=S.src/\D.l=S.l/\F<=L.2.1.length/\p=some (.inl (so D (L,((F:Nat):Int))))/\d=some (Nb D (L,((F:Nat):Int),0,0,0)))\/
 (∃(c l J:Int) (F:Nat),¬c=0/\F<=L.2.1.length/\nd p (bV c l J)/\sE d λt=>t.2.2.2.2.2.2.2.2.2.2.2=(L,(F:Int),c,l,J))
theorem arN(S:eC)(N:j7 S)(he:S.em=false)(L:aD)(F:bD L)(k:Nat)(hk:k<=L.2.1.length):
  Ar (A:=Unit) S L (jX JJ S (L,(k:Int))) (ui S jg (L,(k:Int),0,0,0)):=by
 have D:=N.cur he;have b4:S.bs.length<=4:=D.sB;have f4:(cH S).length<=4:=D.kJ;unfold Ar jX ui JJ y6;simp only[he,au1,kJ S];by_cases c1:0<S.ns.length
 ·refine .inr ⟨1,L.1,aG L k,k,by decide,hk,?_,?_⟩
  ·simp (disch:=omega) only[K0,bP 1 L F k hk];rfl
  ·have hc:¬(1:Int)=0:=by decide
   simp[gN 1 L F k hk (0,0) rfl,Ff _ _ (L,k,1,L.1,aG L k) hc,wJ _ (L,k,1,L.1,aG L k) hc];simp (disch:=omega) only[K0];rfl
 ·simp only[dN (show¬0<(S.ns.length:Int) by omega)]
  by_cases c2:0<(cH S).length
  ·refine .inr ⟨1,L.1,aG L k,k,by decide,hk,?_,?_⟩
   ·simp (disch:=omega) only[K0,bP 1 L F k hk];rfl
   ·have hc:¬(1:Int)=0:=by decide
    simp[gN 1 L F k hk (0,0) rfl,Ff _ _ (L,k,1,L.1,aG L k) hc,wJ _ (L,k,1,L.1,aG L k) hc];simp (disch:=omega) only[K0];rfl
  ·simp only[dN (show¬0<((cH S).length:Int) by omega),mQ _ _ L F k hk]
   by_cases c3:S.bs.length=4
   ·refine .inr ⟨2,L.1,aG L k,k,by decide,hk,?_,?_⟩
    ·simp (disch:=omega) only[K0,bP 2 L F k hk];rfl
    ·have hc:¬(2:Int)=0:=by decide
     simp[if_pos (show(4:Int)<=S.bs.length by omega),wJ _ (L,k,2,L.1,aG L k) hc]
     simp (disch:=omega) only[K0];rfl
   ·simp only[dN (show¬(S.bs.length:Int)=4 by omega),if_neg (show¬4<=(S.bs.length:Int) by omega)]
    rcases MV 0 (by simp) L k F hk with⟨n,U,O,Z,M,J⟩|⟨c,l,Y,U,n,hc,O,M,J⟩
    ·have M:jS 0 (L,k)=_:=M;have J:fx 0 (L,k,0,0,0)=_:=J;refine .inl ⟨{S with em:=false,bs:=S.bs++[n]},U,N.Ng he rfl rfl rfl rfl rfl N.OJ ⟨D.name,D.cD,D.HQ,D.HH,?_,lu D.Bf Z,D.AA,D.eF,D.kJ,D.sx,D.ME,D.short⟩,rfl,rfl,rfl,O,?_,?_⟩
     ·show(S.bs++[n]).length<=4;grind
     ·simp[M];simp (disch:=omega) only[K0];unfold so;simp[aw1];rfl
     ·simp[J];simp (disch:=omega) only[K0];rfl
    ·have M:jS 0 (L,k)=_:=M;have J:fx 0 (L,k,0,0,0)=_:=J;refine .inr ⟨c,l,Y,U,hc,O,?_,?_⟩
     ·simp[M];rfl
     ·simp[J];simp (disch:=omega) only[K0];rfl
theorem apD(S:eC)(Y:j7 S)(he:S.em=false)(L:aD)(U:bD L)(k:Nat)(hk:k<=L.2.1.length):
  Ar (A:=Unit) S L (jX JA S (L,(k:Int))) (ui S kG (L,(k:Int),0,0,0)):=by
 have D:=Y.cur he;have n8:S.ns.length<=8:=D.AA;have f4:(cH S).length<=4:=D.kJ;unfold Ar jX ui JA y6;simp only[he,F4,au1,decide_true,cond_false];cases h1:S.em1 with
 |true=>
  simp only[ai rfl,dY (show(0:Int)-1<0 by decide),mQ _ _ L U k hk,at0]
  by_cases c3:S.ns.length=8
  ·refine .inr ⟨2,L.1,aG L k,k,by decide,hk,?_,?_⟩
   ·simp (disch:=omega) only[K0,bP 2 L U k hk];rfl
   ·have hc:¬(2:Int)=0:=by decide
    simp[if_pos (show(8:Int)<=S.ns.length by omega),wJ _ (L,k,2,L.1,aG L k) hc]
    simp (disch:=omega) only[K0];rfl
  ·simp only[dN (show¬(S.ns.length:Int)=8 by omega),if_neg (show¬8<=(S.ns.length:Int) by omega)]
   rcases MV 4 (by simp) L k U hk with⟨n,O,N,hn,J,F⟩|⟨c,l,ah,O,n,hc,N,J,F⟩
   ·have J:jS 4 (L,k)=_:=J;have F:fx 4 (L,k,0,0,0)=_:=F;have M:cH {S with em:=false,em1:=true,ns:=S.ns++[n]}=cH S:=by unfold cH;rw[h1]
    refine .inl ⟨{S with em:=false,em1:=true,ns:=S.ns++[n]},O,Y.Ng he rfl rfl rfl rfl rfl Y.OJ ⟨D.name,D.cD,D.HQ,D.HH,D.sB,D.Bf,?_,lu D.eF hn,?_,?_,?_,D.short⟩,rfl,rfl,rfl,N,?_,?_⟩
    ·show(S.ns++[n]).length<=8;simp;omega
    ·show(cH {S with em:=false,em1:=true,ns:=S.ns++[n]}).length<=4;rw[M];exact f4
    ·show∀f∈cH {S with em:=false,em1:=true,ns:=S.ns++[n]},_;rw[M];exact D.sx
    ·show((cH {S with em:=false,em1:=true,ns:=S.ns++[n]}).map (·.1)).Nodup;rw[M];exact D.ME
    ·simp[J];simp (disch:=omega) only[K0];unfold so;simp only[aw1];rfl
    ·simp[F];simp (disch:=omega) only[K0];rfl
   ·have J:jS 4 (L,k)=_:=J;have F:fx 4 (L,k,0,0,0)=_:=F;refine .inr ⟨c,l,ah,O,hc,N,?_,?_⟩
    ·simp[J];rfl
    ·simp[F];simp (disch:=omega) only[K0];rfl
 |false=>
  have M:cH S=S.fl++[(S.fn,S.fns)]:=by unfold cH;grind
  have az:S.fl.length<=3:=by grind
  have an:=D.sx (S.fn,S.fns) (by show(S.fn,S.fns)∈cH S;rw[M];simp)
  have l8:S.fns.length<=8:=an.2.1;have ex:(((S.fl.length+1:Nat):Int)-1)=S.fl.length:=by omega
  simp only[cond_false,ex,dY (show(0:Int)<((S.fl.length+1):Int) by omega),dN (show¬S.fl.length<0 by omega)]
  simp only[ai (show ab .i64 S.fl.length by exact ba (by omega)),ai (show(0:Int)<=S.fl.length/\S.fl.length<=(S.fl.length:Int) by omega),mQ _ _ L U k hk]
  by_cases c3:S.fns.length=8
  ·refine .inr ⟨2,L.1,aG L k,k,by decide,hk,?_,?_⟩
   ·simp (disch:=omega) only[K0,bP 2 L U k hk];rfl
   ·have hc:¬(2:Int)=0:=by decide
    simp[if_pos (show(8:Int)<=S.fns.length by omega),wJ _ (L,k,2,L.1,aG L k) hc]
    simp (disch:=omega) only[K0];rfl
  ·simp only[dN (show¬(S.fns.length:Int)=8 by omega),if_neg (show¬8<=(S.fns.length:Int) by omega)]
   rcases MV 4 (by simp) L k U hk with⟨n,O,N,hn,J,F⟩|⟨c,l,ah,O,n,hc,N,J,F⟩
   ·have J:jS 4 (L,k)=_:=J;have F:fx 4 (L,k,0,0,0)=_:=F;refine .inl ⟨{S with em:=false,em1:=false,fns:=S.fns++[n]},O,Y.Ng he rfl rfl rfl rfl rfl Y.OJ ⟨D.name,D.cD,D.HQ,D.HH,D.sB,D.Bf,D.AA,D.eF,?_,?_,?_,D.short⟩,rfl,rfl,rfl,N,?_,?_⟩
    ·show(S.fl++[(S.fn,S.fns++[n])]).length<=4;simp;omega
    ·show∀f∈S.fl++[(S.fn,S.fns++[n])],_;have Z:=D.sx;have Z:∀f∈cH S,bQ f.1=true/\f.2.length<=8/\∀n∈f.2,wU 4 n:=Z;rw[M]at Z;refine lu (λf hf=>Z f (List.mem_append_left _ hf)) ⟨an.1,by show(S.fns++[n]).length<=8;simp;omega,lu an.2.2 hn⟩
    ·have ar:((cH S).map (·.1)).Nodup:=D.ME
     rw[M,aw1]at ar;show((S.fl++[(S.fn,S.fns++[n])]).map (·.1)).Nodup
     rw[aw1];exact ar
    ·simp[J];simp (disch:=omega) only[K0];unfold so;simp only[aw1];rfl
    ·simp[F];simp (disch:=omega) only[K0];rfl
   ·have J:jS 4 (L,k)=_:=J;have F:fx 4 (L,k,0,0,0)=_:=F;refine .inr ⟨c,l,ah,O,hc,N,?_,?_⟩
    ·simp[J];rfl
    ·simp[F];simp (disch:=omega) only[K0];rfl
theorem W2(w n v d b:aa)(y:Bool)(bs ns:List av)(em1:Bool)(fl:List fk)(fn:aa)(fns:List av)(L:aD)(F c li D:Int)(hc:¬c=0)(m:Nat)(hm:m<=1000):
  ∀(j k:Nat),m-k=j->k<=m->
  ae nP ((m:Int)-1,w,(k:Int),n,v,d,b,y,[],[],[],[],bs,ns,em1,fl,fn,fns,L.1,L.2.1,L.2.2,F,c,li,D,())=some (w,n,v,d,b,y,[],[],[],[],bs,ns,em1,fl,fn,fns,L.1,L.2.1,L.2.2,F,c,li,D,()):=by
 intro j
 induction j with
 |zero=>grind[bI,nP]
 |succ j J=>
  intro k M hk;have e:nP (m-1,w,k,n,v,d,b,y,[],[],[],[],bs,ns,em1,fl,fn,fns,L.1,L.2.1,L.2.2,F,c,li,D,())=some (.inl (m-1,w,(k+1),n,v,d,b,y,[],[],[],[],bs,ns,em1,fl,fn,fns,L.1,L.2.1,L.2.2,F,c,li,D,())):=by simp (disch:=omega) only[K0,nP,bn]
  rw[bd e];exact J (k+1) (by omega) (by omega)
theorem akF(w n v d b:aa)(y:Bool)(bs ns:List av)(fl:List fk)(fn:aa)(fns:List av)(L:aD)(F:bD L)(D:Nat)(J:D<=L.2.1.length)(Y:fl.length<=100):
  ∀(j k:Nat),fl.length+1-k=j->k<=fl.length+1->
  ae nP (((fl.length+1:Nat):Int)-1,w,(k:Int),n,v,d,b,y,[],[],[],[],bs,ns,false,fl,fn,fns,L.1,L.2.1,L.2.2,(D:Int),0,0,0,())=some (
   if((fl++[(fn,fns)]).drop k).any (λf=>decide (f.1=w))=true then(w,n,v,d,b,y,[],[],[],[],bs,ns,false,fl,fn,fns,L.1,L.2.1,L.2.2,(D:Int),3,L.1,aG L D,())
   else(w,n,v,d,b,y,[],[],[],[],bs,ns,false,fl,fn,fns,L.1,L.2.1,L.2.2,(D:Int),0,0,0,())):=by
 intro j
 induction j with
 |zero=>
  intro k N hk;have e:(fl++[(fn,fns)]).drop k=[]:=az3 (by grind)
  rw[bI,e];simp only[nP,cond_false,dN (show¬k<=((fl.length+1:Nat):Int)-1 by omega),List.any_nil,av7,if_false]
 |succ j U=>
  intro k N hk;have O:k<(fl++[(fn,fns)]).length:=by simp;omega
  have M:(fl++[(fn,fns)])[k]=if h2:k<fl.length then fl[k]else(fn,fns):=by simp[List.getElem_append]
  rw[av6 O,aD7,M]
  have e:nP (((fl.length+1:Nat):Int)-1,w,k,n,v,d,b,y,[],[],[],[],bs,ns,false,fl,fn,fns,L.1,L.2.1,L.2.2,D,0,0,0,())=some (.inl (
    if decide ((if h2:k<fl.length then fl[k]else(fn,fns)).1=w)=true then(((fl.length+1:Nat):Int)-1,w,((k+1:Nat):Int),n,v,d,b,y,[],[],[],[],bs,ns,false,fl,fn,fns,L.1,L.2.1,L.2.2,D,3,L.1,aG L D,())
    else((fl.length+1)-1,w,(k+1),n,v,d,b,y,[],[],[],[],bs,ns,false,fl,fn,fns,L.1,L.2.1,L.2.2,D,0,0,0,()))):=by
   simp only[nP,dY (show(k:Int)<=(fl.length+1)-1 by omega),bn,aw3,F4]
   by_cases h2:k<fl.length
   ·rw[dif_pos h2];simp (disch:=omega) only[K0];by_cases hs:(fl[k]).1=w
    ·simp[dY hs,cond_true,gN 3 L F D J (0,0) rfl,aC (show k+1<=4611686018427387904 by omega),if_true]
    ·grind
   ·rw[dif_neg h2];simp (disch:=omega) only[K0];by_cases hs:fn=w
    ·simp[dY hs,cond_true,gN 3 L F D J (0,0) rfl,aC (show k+1<=4611686018427387904 by omega),if_true]
    ·simp[dN hs,cond_false,av7]
  cases hs:decide ((if h2:k<fl.length then fl[k]else(fn,fns)).1=w)with
  |true=>
   rw[hs,if_pos rfl]at e;rw[bd e,W2 w n v d b y bs ns false fl fn fns L D 3 L.1 (aG L D) (by simp) (fl.length+1) (by omega) j (k+1) (by omega) (by omega)]
   rfl
  |false=>rw[hs]at e;rw[bd e];exact U (k+1) (by omega) (by omega)
theorem alw(S:eC)(O:j7 S)(he:S.em=false)(L:aD)(M:bD L)(k:Nat)(hk:k<=L.2.1.length):
  Ar (A:=Unit) S L (jX I8 S (L,(k:Int))) (MJ S gy (L,(k:Int),0,0,0)):=by
 have aE:=O.OJ;have D:=O.cur he;have f4:(cH S).length<=4:=D.kJ;have Y:∀(w:aa) (F c li J:Int) (hc:¬c=0),ae nP (((cH S).length:Int)-1,w,0,S.n,S.v,S.d,S.b,S.y,[],[],[],[],S.bs,S.ns,S.em1,S.fl,S.fn,S.fns,L.1,L.2.1,L.2.2,F,c,li,J,())=some (w,S.n,S.v,S.d,S.b,S.y,[],[],[],[],S.bs,S.ns,S.em1,S.fl,S.fn,S.fns,L.1,L.2.1,L.2.2,F,c,li,J,()):=λw F c li J hc=>W2 w S.n S.v S.d S.b S.y S.bs S.ns S.em1 S.fl S.fn S.fns L F c li J hc (cH S).length (by omega) _ 0 rfl (au2 _)
 have ar:∀(w:aa) (F:Nat) (Z:F<=L.2.1.length),ae nP (((cH S).length:Int)-1,w,0,S.n,S.v,S.d,S.b,S.y,[],[],[],[],S.bs,S.ns,S.em1,S.fl,S.fn,S.fns,L.1,L.2.1,L.2.2,(F:Int),0,0,0,())=some (
   if(cH S).any (λf=>decide (f.1=w))=true then(w,S.n,S.v,S.d,S.b,S.y,[],[],[],[],S.bs,S.ns,S.em1,S.fl,S.fn,S.fns,L.1,L.2.1,L.2.2,(F:Int),3,L.1,aG L F,())
   else(w,S.n,S.v,S.d,S.b,S.y,[],[],[],[],S.bs,S.ns,S.em1,S.fl,S.fn,S.fns,L.1,L.2.1,L.2.2,(F:Int),0,0,0,())):=by
  intro w F Z;cases h1:S.em1 with
  |true=>
   have e:cH S=[]:=by unfold cH;rw[h1];rfl
   rw[e,bI];simp only[nP,ay2,dN (show¬(0:Int)<=((0:Nat):Int)-1 by decide),cond_false,List.any_nil,av7,if_false]
  |false=>
   have e:cH S=S.fl++[(S.fn,S.fns)]:=by unfold cH;rw[h1];rfl
   have:=akF w S.n S.v S.d S.b S.y S.bs S.ns S.fl S.fn S.fns L M F Z aE _ 0 rfl (au2 _);rw[ax7]at this;rw[e,au5,ay7];exact this
 unfold Ar jX MJ I8 Kb;simp only[he,aw3,F4,au1,TW S,kJ S,dN (show¬gy=jg by decide),dN (show¬gy=kG by decide),decide_true,cond_true,cond_false]
 rw[ai (show ab .i64 (((cH S).length:Int)-1) by exact ba (by omega))]
 simp only[mQ _ _ L M k hk,at0];by_cases c4:(cH S).length=4
 ·refine .inr ⟨2,L.1,aG L k,k,by decide,hk,?_,?_⟩
  ·simp only[dY (show((cH S).length:Int)=4 by omega),cond_true,bP 2 L M k hk,at0];rfl
  ·have hc:¬(2:Int)=0:=by decide
   simp only[if_pos (show(4:Int)<=((cH S).length:Int) by omega),at0,jb _ (L,(k:Int),2,L.1,aG L k) hc,Y _ _ 2 _ _ hc]
   rw[ai (by omega)];rfl
 ·simp only[dN (show¬((cH S).length:Int)=4 by omega),cond_false,if_neg (show¬(4:Int)<=((cH S).length:Int) by omega)]
  rcases TC L k M hk with⟨h1,hp,N,U⟩|⟨c,l,J,k',w',hc,az,N,U⟩
  ·simp only[id]at N;have ah:=Tx (S.n,(((aO S.v).1.1,(aO S.v).1.2.1,(aO S.v).1.2.2),(aO S.v).2),(dz S.d:Int),fY S.b,S.y,S.bs.map aX,S.ns.map aX,(cH S).map ff) (L.2.1[k]) (by show((cH S).map ff).length<=1000;rw[au1];omega)
   have an:((cH S).map ff).any (λf=>decide (f.1=L.2.1[k]))=(cH S).any (λf=>decide (f.1=L.2.1[k])):=by rw[List.any_map];rfl
   simp only[N,U,at0,ah,ar _ (k+1) h1,pb,an];cases ha:(cH S).any (λf=>decide (f.1=L.2.1[k]))with
   |true=>
    refine .inr ⟨3,L.1,aG L (k+1),k+1,by decide,h1,?_,?_⟩
    ·simp only[cond_true,bP 3 L M (k+1) h1,at0];rfl
    ·simp only[if_true];rw[ai (by omega)];rfl
   |false=>
    refine .inl ⟨{S with em:=false,em1:=false,fl:=cH S,fn:=L.2.1[k],fns:=[]},k+1,O.Ng he rfl rfl rfl rfl rfl (by show(cH S).length<=100;omega) ⟨D.name,D.cD,D.HQ,D.HH,D.sB,D.Bf,D.AA,D.eF,?_,?_,?_,D.short⟩,rfl,rfl,rfl,h1,?_,?_⟩
    ·show(cH S++[(L.2.1[k],[])]).length<=4;simp;omega
    ·show∀f∈cH S++[(L.2.1[k],[])],_;exact lu D.sx ⟨hp,au2 _,λn h=>by cases h⟩
    ·show((cH S++[(L.2.1[k],[])]).map (λf:fk=>f.1)).Nodup;rw[aw1];refine nS D.ME (λg=>?_);obtain⟨f,hf,g2⟩:=ax1.1 g;have:(cH S).any (λf=>decide (f.1=L.2.1[k]))=true:=by rw[aH3];exact⟨f,hf,decide_eq_true g2⟩
     rw[ha]at this;cases this
    ·simp only[cond_false];rw[ai (by omega)];rfl
    ·simp only[av7,if_false];rw[ai (by omega)];rfl
  ·refine .inr ⟨c,l,J,k',hc,az,?_,?_⟩
   ·simp only[N,at0];rfl
   ·simp only[U,at0,Y _ _ c _ _ hc];rw[ai (by omega)];rfl
end
end Go.Proofs.YtejhifnjgoclpaaGreatDoor.Fx
