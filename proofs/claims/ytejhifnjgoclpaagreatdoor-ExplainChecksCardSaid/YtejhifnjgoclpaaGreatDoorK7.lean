/- Parts of the proofs, put together by a program. -/
import Derived.Test.YtejhifnjgoclpaaGreatDoorK6
set_option linter.unusedVariables false
set_option linter.unusedSimpArgs false
open Option renaming bind_some->at0,bind_eq_some_iff->ay0
open List renaming getElem_mem->at2,length_map->au1,getElem?_eq_getElem->au4,length_append->au5,length_cons->av1,mem_append->av3,drop_eq_getElem_cons->av6,mem_singleton->aw0,mem_cons_self->aw4,all_eq_true->ax0,mem_map->ax1,mem_cons_of_mem->ax5,drop_zero->ax7,getElem_map->ax8,drop_length->ay8,not_mem_nil->az1,length_eq_zero_iff->az2,drop_eq_nil_of_le->az3,nil_append->aB4,mem_filter->aC5,mem_of_find?_eq_some->aE4,length_filter_le->aG3,drop_eq_nil_iff->aI7
open Nat renaming le_refl->at9,zero_le->au2,le_trans->aw8
open Bool renaming and_eq_true->au0,not_true->av2,not_false->aw3,eq_iff_iff->aB9,and_self->aC6
open Sum renaming inl->au6,inr->au8
open Int renaming toNat_natCast->av0,lt_irrefl->av8
namespace Go.Proofs.YtejhifnjgoclpaaGreatDoor.Fx
open Go.RowKit
set_option maxRecDepth 1000000
noncomputable section
abbrev ia:Ty:=.int .i64
abbrev OV:Ty:=.pair ia (.pair ia ia)
abbrev H4:Ty:=.pair OV .str
abbrev HZ:Ty:=.sl (.pair .str (.pair (.sl (.sl (.pair ia H4))) (.sl .str)))
abbrev V5:Ty:=.pair (.pair .str (.pair H4 (.pair (.int .u64) (.pair (.int .u32) (.pair .bool (.pair HZ (.pair HZ (.sl (.pair .str HZ))))))))) .str
abbrev H3:Sh:=.v (.ptr (.pair (.sl V5) (.pair HZ (.sl (.pair .str .str)))))
abbrev X_8:Ty:=.pair ia (.pair (.sl .str) (.sl ia))
abbrev vu:SO:=.st 297 (.pair X_8 ia)
abbrev Cd:List Sh:=[.dead,.dead,.dead]
abbrev HY:SO:=.row 55 (.sl ia)
abbrev V7:SO:=.var 207 (.dead::Cd)
abbrev X_e:Shape:=⟨[],[(1000,V7),(1004,HY),(1020,.var 297 (.dead::Cd))]⟩
abbrev V4:Sh:=.v .bool
abbrev th:Sh:=.v (.sl V5)
abbrev Gq:Nat×SS:=(0,.c (.ptr 3000 0))
abbrev adK:Nat×SO:=(3000,.var 207 [th,H3,.dead,.dead])
abbrev NC:Shape:=⟨[],[(1020,.var 297 (.dead::Cd))]⟩
abbrev mI:SS:=.c (.v (.sl ia))
abbrev atq:List (Bool×Shape):=[(false,⟨[(4,mI)],[(1020,vu)]⟩),(true,NC)]
abbrev V9:List (Nat×Nat):=[(3000,3000),(1020,1020)]
abbrev X_P:Nat×SO:=(1000,.var 207 [th,H3,V4,.own 1004])
abbrev X_g:List (Nat×SO):=[X_P,(1004,HY),(1020,vu)]
abbrev iF:List (Nat×Nat):=[(1000,1020)]
abbrev Cg:Ky:=.q [1000]
abbrev X_h:List (Nat×bo):=[(2,{ow:=[7],ps:=[(7,iF)]}),(116,{ow:=[24],ps:=[(24,iF)]}),(238,{ow:=[35],ps:=[(35,iF)]}),(958,{ow:=[46],kf:=[(3,Cg),(4,Cg),(7,.r [1020] [1000,1004] true),(9,.u [1004] false),(11,Cg),(12,.u [1000] false)],ps:=[(46,[(3000,1000),(3004,1004),(1020,1020)])]}),(3838,{ow:=[62],kf:=[(3,Cg),(4,Cg),(8,.r [1020] [1000] true),(10,.u [1004] false),(12,Cg),(13,.u [1000] false)],ps:=[(62,[(3000,1000),(1020,1020)])]}),(3839,{ow:=[12],ps:=[(12,iF)]})]
abbrev de:SS:=.c (.v ia)
abbrev O1:Ky:=.u [1020] true
abbrev X_j:List (Nat×bo):=[(6,{ow:=[11,13],ps:=[(11,iF),(13,iF)]}),(60,{ow:=[15],ps:=[(15,iF)]}),(62,{ow:=[39],ps:=[(39,iF)]}),(490,{ow:=[23,24],ps:=[(23,iF),(24,V9)]}),(506,{ow:=[69],ps:=[(69,iF)]}),(1966,{ow:=[33,35],kf:=[(2,.q [3000]),(3,.q [3000]),(5,O1),(7,O1)],ps:=[(33,iF),(35,iF)]}),(1967,{ow:=[17],ps:=[(17,iF)]}),(4090,{ow:=[117],ps:=[(117,iF)]})]
abbrev Ce:SS:=.c (.v (.sl X_8))
abbrev X_m:List (Nat×bo):=[(2042,{ow:=[102],ps:=[(102,iF)]}),(62682,{ow:=[27],ps:=[(27,iF)]}),(501468,{ow:=[33],ps:=[(33,iF)]}),(501469,{ow:=[38],ps:=[(38,V9)]}),(1002942,{ow:=[47],ps:=[(47,V9)]}),(8023548,{ow:=[58],kf:=[(2,.q [3000]),(3,.q [3000]),(6,O1)],ps:=[(58,iF)]})]
abbrev vr:Nat×SS:=(0,.c (.ptr 1000 0))
abbrev OU:SO:=.var 297 [.v ia,.v (.sl .str),.v (.sl ia),.v ia]
abbrev Cc:Nat×SS:=(1,.c (.ptr 1020 0))
abbrev Cb:Shape:=⟨[],[(1000,.var 297 (.dead::Cd))]⟩
abbrev OT:Nat×bo:=(13,{cut:=[(.normal,⟨[],[]⟩),(.ret,⟨[(4,de)],[]⟩)]})
abbrev pY:SS:=.c (.v .str)
abbrev rr:SS:=.c (.v (.sl .str))
abbrev X_A:List (Nat×bo):=[(31334,{ow:=[23],ps:=[(23,[(1000,1100),(1004,1104),(1020,20)])]}),(62670,{ow:=[25],ps:=[(25,[(1000,20)])]}),(250685,{ow:=[34],ps:=[(34,[(1000,20)])]})]
abbrev Wa:List (Nat×SO):=[(1104,HY),(2000,.var 89 Cd)]
abbrev V8:Nat×SS:=(1,.fn 84 [.ptr 1100 0] [])
abbrev OZ:Nat×SS:=(4,.c (.ptr 2000 0))
abbrev X_G:List (Nat×bo):=[(6,{ow:=[9],ps:=[(9,iF)]}),(14,{ow:=[17],kf:=[(2,.q [3000]),(3,.q [3000]),(5,.q [7]),(7,O1)],ps:=[(17,iF)]})]
abbrev H5:Nat×SO:=(1100,.var 207 [th,H3,V4,.own 1104])
abbrev tg:List (Nat×Nat):=[(1000,1000)]
abbrev OY:Nat×SS:=(1,.fn 398 [] [.v (.ptr ia)])
abbrev ru:List (Nat×SO):=[(1000,vu)]
abbrev O0:Sh:=.v (.ptr .str)
abbrev X_Q:SS:=.fn 395 [] [O0,.v (.ptr H4),O0]
abbrev X_R:Shape:=⟨[(5,.c (.own 36)),(15,Ce),(16,de),(17,de)],[(36,.row 9 .str)]⟩
abbrev V6:Nat×SS:=(1,.fn 399 [] [.v (.ptr (.sl ia))])
abbrev OX:Bool×Shape:=(false,⟨[(4,de)],[]⟩)
abbrev Cf:SO:=.row 3 ia
abbrev OW:List (Nat×SO):=[(1104,HY)]
abbrev X_W:List (Nat×bo):=[(6,{ow:=[9],ps:=[(9,tg)]}),(250,{ow:=[23],ps:=[(23,tg)]})]
abbrev X_Z:List (Nat×SS):=[Gq,Cc,(2,de),(7,.c (.own 29)),(8,pY),(18,.c (.ptr 18 0))]
abbrev X_0:List (Bool×Shape):=[(true,X_e)]
abbrev vv:SS:=.c V4
abbrev Wc:Bool×Shape:=(false,⟨[(4,vv)],[]⟩)
abbrev Wb:Shape:=⟨[(0,mI),(1,de)],[]⟩
abbrev O3:Shape:=⟨[(0,pY)],[]⟩
abbrev X_4:Nat×SS:=(3000004,.st OV)
abbrev O2:SS:=.c (.own 5000)
def W9:FS:=mkQ [XN] [] 82 O3 [(false,⟨[(2,Ce),(3000003,.st OV)],[]⟩)] (k1 J4)
def aiL:FS:=mkG [] [] 152 ⟨[],[]⟩ [(false,⟨[(0,rr)],[]⟩)] λx=>Qu
def Qv:FS:=mkHh [cV,qd] [(2,{ow:=[3],ps:=[(3,tg)]}),(6,{ow:=[5],ps:=[(5,tg)]})] 153 ⟨[vr],ru⟩ [(false,⟨[],ru⟩),(true,Cb)] (id) (id) (λ_=>rfl) (k1 qk)
def ag5:FS:=mkHh [cV,iJ] [(6,{ow:=[9],ps:=[(9,tg)]}),(58,{ow:=[29],ps:=[(29,tg)]}),(125,{cut:=[(.normal,⟨[vr,(1,de),(6,de)],[(1000,OU)]⟩),(.dx,Cb)]}),(250,{loop:=some ⟨[vr,(1,de),(5,pY),(6,de),(31,de),(32,de)],[(1000,OU)]⟩}),(506,{ow:=[60],ps:=[(60,tg)]}),(128202,{ow:=[46],ps:=[(46,tg)]})] 334 ⟨[vr,(1,de)],ru⟩ [(false,⟨[(4,de)],ru⟩),(true,Cb)] (id) (id) (λ_=>rfl) (k2 I6)
def W0:FS:=mkHh [ag5] [(6,{ow:=[4],ps:=[(4,tg)]})] 235 ⟨[vr],ru⟩ [(false,⟨[(2,de)],ru⟩),(true,Cb)] (id) (id) (λ_=>rfl) (k1 vS)
def ajg:FS:=mkQ [y'] [] 237 O3 [(false,⟨[(2,pY),(3,vv)],[]⟩)] (k1 Kd)
def Ww:FS:=mkHh [cV,iJ,ajg] X_W 178 ⟨[vr,(1,.fn 237 [] [])],ru⟩ [(false,⟨[(4,pY)],ru⟩),(true,Cb)] (id) (id) (λ_=>rfl) (k1 CJ)
def aiJ:FS:=mkQ [DO] [] 238 O3 [(false,⟨[(2,pY),(3,vv)],[]⟩)] (k1 J5)
def PH:FS:=mkHh [cV,iJ,aiJ] X_W 178 ⟨[vr,(1,.fn 238 [] [])],ru⟩ [(false,⟨[(4,pY)],ru⟩),(true,Cb)] (id) (id) (λ_=>rfl) (k1 CH)
def ait:FS:=mkG [] [] 395 ⟨[(0,.st V5),(1,.c O0),(2,.c (.v (.ptr H4))),(3,.c O0)],[]⟩ [(false,⟨[(5,vv)],[]⟩)] (k4 JV)
def agr:FS:=mkG [ait] [OT,(26,{loop:=some ⟨[(0,.c th),(1,X_Q),(7,de),(8,de)],[]⟩})] 394 ⟨[(0,.c th),(1,X_Q)],[]⟩ [OX] (k4 PE)
def akG:FS:=mkG [agr] [(6,{rd:=[11]})] 335 ⟨[(0,.c th),(1,pY),(2,.st H4),(3,pY)],[]⟩ [(false,⟨[(8,de)],[]⟩)] (k4 KX)
def WH:FS:=mkHh [PF,PH,akG] X_G 236 ⟨[Gq,Cc,(2,pY)],[(3000,.var 207 [th,.dead,.dead,.dead]),(1020,vu)]⟩ [(false,⟨[(6,de)],[(1020,vu)]⟩),(true,NC)] (id) (id) (λ_=>rfl) (k3 vH)
def ahI:FS:=mkG [] [OT,(26,{loop:=some ⟨[(0,mI),(1,de),(7,de),(8,de)],[]⟩})] 396 Wb [OX] (k2 Qd)
def WJ:FS:=mkG [ahI] [] 336 Wb [Wc] (k2 yB)
def WY:FS:=mkG [] [] 398 ⟨[(0,de),(1,.c (.v (.ptr ia)))],[]⟩ [(false,⟨[(3,vv)],[]⟩)] (k2 Dn)
def agn:FS:=mkG [WY] [OT,(26,{loop:=some ⟨[(0,mI),OY,(7,de),(8,de)],[]⟩})] 138 ⟨[(0,mI),OY],[]⟩ [OX] (k2 PA)
def agk:FS:=mkG [WY,agn] [(6,{rd:=[10]}),(61,{cut:=[(.normal,⟨[(0,O2),(5,de)],[(5000,Cf)]⟩)]}),(122,{loop:=some ⟨[(0,O2),OY,(5,de),(6,de)],[(5000,Cf)]⟩}),(126,{cn:=[(2,[5000])]})] 64 ⟨[(0,O2),OY],[(5000,Cf)]⟩ [(false,⟨[(4,O2)],[(5000,Cf)]⟩)] (k2 Iy)
def ajX:FS:=mkG [akE,agk] [(6,{pre:=[.xZ 3 ia],ow:=[6],cn:=[(3,[6])],ps:=[(6,[(1,6)]),(8,[(5000,6)])]}),(7,{pre:=[.aY 6]})] 338 Wb [(false,⟨[(4,mI)],[]⟩)] (k2 Ec)
def ajk:FS:=mkG [WJ] [] 399 ⟨[(0,de),(1,.c (.v (.ptr (.sl ia))))],[]⟩ [(false,⟨[(3,vv)],[]⟩)] (k2 Ki)
def agu:FS:=mkG [ajk] [OT,(26,{loop:=some ⟨[(0,mI),V6,(7,de),(8,de)],[]⟩})] 138 ⟨[(0,mI),V6],[]⟩ [OX] (k2 PG)
def agp:FS:=mkG [agu] [] 77 ⟨[(0,mI),V6],[]⟩ [Wc] (k2 PD)
def amW:FS:=mkG [agp] [(6,{rd:=[5]})] 339 ⟨[(0,mI)],[]⟩ [(false,⟨[(2,vv)],[]⟩)] (k1 LU)
def ajY:FS:=mkQ [amX,amW,ajX,ajT,WJ] [] 239 ⟨[(0,mI),(1,mI),(2,de)],[]⟩ [(false,⟨[(6,mI),(7,de)],[]⟩)] (k3 wa)
def ag1:FS:=mkHh [WH,Qv,W0,cV,iJ,Ww,PH,ajY,Qb] X_j 154 ⟨[Gq,Cc],[(3000,.var 207 [th,H3,.dead,.own 3004]),(3004,HY),(1020,vu)]⟩ atq (id) (id) (λ_=>rfl) (k4 I0)
def aiM:FS:=mkG [] [] 240 ⟨[],[]⟩ [(false,⟨[(0,rr)],[]⟩)] λx=>DD
def ag2:FS:=mkHh [WH,Qv,W0,cV,Ww,PH,ahn,Qb,aiM] ((61,{cut:=[(.normal,⟨[Gq,Cc,(2,de),(7,.c (.own 29))],[(29,Cf),(3000,.var 207 [.dead,H3,.dead,.dead]),(1020,OU)]⟩),(.dx,NC)]})::(62,{ow:=[73],ps:=[(73,iF)]})::(122,{pre:=[.dI 7 29 (.row [] 3 ia [])],loop:=some ⟨X_Z,((18,.var 4294967295 [.v .str,.v ia])::(29,Cf)::adK::[(1020,OU)])⟩})::X_m) 155 ⟨[Gq,Cc,(2,de)],[adK,(1020,vu)]⟩ [(false,⟨[(6,mI)],[(1020,vu)]⟩),(true,NC)] (id) (id) (λ_=>rfl) (k4 I1)
def ag0:FS:=mkHh [ag2,ag1,Qv,cV,iJ,aiL,CP] X_h 84 ⟨[vr,Cc],X_g⟩ ((false,⟨[],X_g⟩)::X_0) (id) (id) (λ_=>rfl) (λx=>IZ x.1 x.2.1 x.2.2.1 x.2.2.2.1 x.2.2.2.2.1)
def agy:FS:=mkEach [ag0,cV,qd] ((61,{cut:=[(.normal,⟨[OZ],(H5::Wa)⟩),(.dx,⟨[OZ],((1100,V7)::Wa)⟩)]})::(122,{loop:=some ⟨[V8,OZ,(12,Ce),(13,de),(14,de)],(H5::Wa)⟩})::X_A) ⟨[(0,Ce),V8],(H5::OW)⟩ ⟨[(0,Ce),V8,OZ],((2000,.var 89 Cd)::H5::OW)⟩ ⟨[X_4],(H5::OW)⟩ ⟨[X_4],((1100,V7)::OW)⟩ (id) (id) (λ_=>rfl) (λx=>PN x.1 x.2.1 x.2.2.1 x.2.2.2.1 x.2.2.2.2.1) (by kernel_rfl) (λx=>by kernel_rfl)
def Xa:FS:=mkG [agy,akA,W9] [(508,{pre:=[.dR 39 3 639 (.row [] 55 (.sl ia) [])],ow:=[43],ps:=[(43,[(1100,39),(1104,639)])]})] 35 ⟨[(0,pY),(1,.c th),(2,.c (.v HZ))],[]⟩ [(false,⟨[(3000006,.st OV)],[]⟩)] (k3 vX)
def aiK:FS:=mkG [] [(63,{pre:=[.aY 31,.aY 46]})] 148 ⟨[(0,rr)],[]⟩ [(false,⟨[(2,rr)],[]⟩)] (k1 Xw)
def aiN:FS:=mkG [aiK,W9,CN] [(61,{cut:=[(.normal,⟨[(5,.c (.own 36))],[(36,.row 9 .str)]⟩)]}),(63,{pre:=[.aY 36]}),(122,{pre:=[.dI 5 36 (.row [] 9 .str [])],loop:=some X_R}),(15667,{cut:=[(.normal,X_R)]}),(31334,{loop:=some ⟨[(5,.c (.own 36)),(15,Ce),(16,de),(17,de),(23,rr),(24,de),(25,de)],[(36,.row 9 .str)]⟩}),(4010802,{rd:=[31]})] 81 O3 [(false,⟨[(2,rr)],[]⟩)] (k1 Xx)
def Kv:FS:=mkG [] [(29,{cut:=[(.normal,⟨[],[]⟩),(.ret,⟨[(4,.c (.kb false))],[]⟩)]}),(58,{loop:=some ⟨[(0,rr),(1,rr),(5,de)],[]⟩})] 80 ⟨[(0,rr),(1,rr)],[]⟩ [Wc] (k2 wm)
def aia:FS:=mkG [Xa,aiN,WX,Kv] [] 34 ⟨[],[]⟩ [(false,⟨[(0,vv)],[]⟩)] λx=>yR
abbrev kr:=List UInt8
abbrev cO:=List kr
abbrev Ci:=List (kr×kr×cO)
abbrev Wf:=List ((kr×kr×kr×kr×Bool×Ci×Ci×List (kr×Ci))×kr×Int)
abbrev bH:=List Int
abbrev Wd:=List (kr×kr)
abbrev H6:=Wf×Ci×Wd
abbrev We:=List ((Int×Int×Int×Int×Int)×bH)
abbrev V_h:=cO×Int×Wf×Ci×Wd×Unit
abbrev Ch:=Int×Unit
abbrev O4:=Option Bool
def y0:Lp (cO×bH×Ch) (Unit⊕Unit):=λ(F,D,i,_)=>let L:Option (cO×bH×Ch⊕Unit⊕Unit):=(ag D i).bind λU=>bif !decide (U=20)then J (ab .i64 (i+1))<|(ag F (i+1)).bind λY=>(ag D i).bind λZ=>(iL Y Z).bind λis=>bif !is then some (.inr (.inr (())))else J (ab .i64 (i+1))<|some (.inl (F,D,(i+1),()))else J (ab .i64 (i+1))<|some (.inl (F,D,(i+1),()));bif decide (i<(D.length:Int))then J (ab .i64 (i+1))<|(ag F (i+1)).bind λN=>(oZ N).bind λM=>(ag D i).bind λO=>bif decide (O=20)then bif !M.2 then some (.inr (.inr (())))else L else L else some (.inr (.inl (())))
def zp(w:cO)(form:bH):O4:=J (ab .i64 ((form.length:Int)+1))<|bif !decide ((w.length:Int)=((form.length:Int)+1))then some false else(ae y0 (w,form,0,())).bind λo=>match o with|.inl (_)=>some true|.inr (_)=>some false
def KM(w:cO):O4:=bif decide ((w.length:Int)<4)then some false else(ag w 0).bind λN=>bif !decide (N=dL)then some false else(ag w 1).bind λO=>(oZ O).bind λL=>(ag w 2).bind λU=>(oZ U).bind λM=>bif !L.2 then some false else bif !M.2 then some false else(ag w 3).bind λY=>bif decide (Y=ph)then J (0<=(3:Int)/\(3:Int)<=(w.length:Int)/\(w.length:Int)<=w.length)<|(zp ((w.take (w.length:Int).toNat).drop (3:Int).toNat) ([2,3,1]:bH)).bind λD=>some D else(ag w 3).bind λZ=>bif decide (Z=gy)then J (0<=(3:Int)/\(3:Int)<=(w.length:Int)/\(w.length:Int)<=w.length)<|(zp ((w.take (w.length:Int).toNat).drop (3:Int).toNat) ([2,1]:bH)).bind λF=>some F else some false
def wD(c:H6)(i:Int):Option cO:=(ag c.1 i).bind λJ=>(ag c.1 i).bind λD=>(ag c.1 i).bind λF=>some ([J.1.1,D.1.2.1,F.2.1]:cO)
def yT:Lp V_h (Unit⊕Ch):=λ(D,i,F,L,M,_)=>bif decide (i<(F.length:Int))then J (0<=(4:Int)/\(4:Int)<=(D.length:Int)/\(D.length:Int)<=D.length)<|(wD (F,L,M) i).bind λN=>(wm ((D.take (D.length:Int).toNat).drop (4:Int).toNat) N).bind λO=>bif O then J (ab .i64 (i+1))<|some (.inr (.inr ((i+1),())))else J (ab .i64 (i+1))<|some (.inl (D,(i+1),F,L,M,()))else some (.inr (.inl (())))
def J8(c:H6)(w:cO):Option Int:=(ag w 3).bind λM=>bif decide (M=gy)then(ag w 4).bind λF=>(ag w 5).bind λJ=>(oW c (F,J)).bind λD=>some D else(ae yT (w,0,c.1,c.2.1,c.2.2,())).bind λo=>match o with|.inl (_)=>some 0|.inr (L,_)=>some L
def Em:Lp (bH×Ch) (Unit⊕Unit):=λ(D,i,_)=>bif decide (i<(D.length:Int))then(ag D i).bind λF=>J (ab .i64 (0-F))<|(tY D (0-F)).bind λL=>bif L then some (.inr (.inr (())))else J (ab .i64 (i+1))<|some (.inl (D,(i+1),()))else some (.inr (.inl (())))
def LF(c:bH):O4:=(ae Em (c,0,())).bind λo=>match o with|.inl (_)=>some false|.inr (_)=>some true
def Dy:Lp (bH×bH×Int×Int×bH×Unit) (bH×Int×bH×Unit):=λ(F,N,M,D,L,_)=>bif decide (D<(F.length:Int))then(ag F D).bind λU=>bif !decide (U=M)then(ag F D).bind λO=>J (L.length+([O]:bH).length<=1000000000)<|J (ab .i64 (D+1))<|some (.inl (F,N,M,(D+1),(L++([O]:bH)),()))else J (ab .i64 (D+1))<|some (.inl (F,N,M,(D+1),L,()))else some (.inr (N,M,L,()))
def Dx:Lp (bH×Int×Int×bH×Unit) (bH×Unit):=λ(F,M,D,L,_)=>bif decide (D<(F.length:Int))then(ag F D).bind λO=>J (ab .i64 (0-M))<|bif !decide (O=(0-M))then(ag F D).bind λN=>J (L.length+([N]:bH).length<=1000000000)<|J (ab .i64 (D+1))<|some (.inl (F,M,(D+1),(L++([N]:bH)),()))else J (ab .i64 (D+1))<|some (.inl (F,M,(D+1),L,()))else some (.inr (L,()))
def DW(x L:bH)(D:Int):Option (bH×Bool):=bif decide (D<1)then some ([],false)else(tY x D).bind λM=>bif !M then some ([],false)else J (ab .i64 (0-D))<|(tY L (0-D)).bind λN=>bif !N then some ([],false)else(ae Dy (x,L,D,0,[],())).bind λ(Z,ah,U,_)=>(ae Dx (Z,ah,0,U,())).bind λ(F,_)=>(LF F).bind λY=>bif Y then some ([],false)else(kE F).bind λO=>some (O.1,true)
def LD(a b:bH)(v:Int):Option (bH×Bool):=(DW a b v).bind λD=>bif D.2 then some (D.1,true)else(DW b a v).bind λF=>some (F.1,F.2)
def rN(w:kr):Option bH:=bif decide (w=pg)then some ([20]:bH)else bif decide (w=ub)then some ([20,20]:bH)else bif decide (w=uq)then J (([2,3,1]:bH).length+([3,1]:bH).length<=1000000000)<|some (([2,3,1]:bH)++([3,1]:bH))else bif decide (w=kG)then J (([2,3,1]:bH).length+([20]:bH).length<=1000000000)<|some (([2,3,1]:bH)++([20]:bH))else bif decide (w=tV)then J (([2,3,1]:bH).length+([20,20]:bH).length<=1000000000)<|some (([2,3,1]:bH)++([20,20]:bH))else bif decide (w=tW)then J (([2,3,1]:bH).length+([1]:bH).length<=1000000000)<|some (([2,3,1]:bH)++([1]:bH))else bif decide (w=tX)then J (([2,3,1]:bH).length+([1,20]:bH).length<=1000000000)<|some (([2,3,1]:bH)++([1,20]:bH))else bif decide (w=tP)then J (([2,3,1]:bH).length+([1,20,20]:bH).length<=1000000000)<|some (([2,3,1]:bH)++([1,20,20]:bH))else bif decide (w=jg)then J (([2,3,1]:bH).length+([20,2,3,1]:bH).length<=1000000000)<|some (([2,3,1]:bH)++([20,2,3,1]:bH))else some []
def mS(x:H6)(D:Int×Int×Int×Int×Int):Option cO:=J (0<=D.1/\D.1<([[],pg,ub,uq,kG,tV,tW,tX,tP,jg]:cO).length)<|(([[],pg,ub,uq,kG,tV,tW,tX,tP,jg]:cO)[D.1.toNat]?).bind λy=>bif decide (D.1=1)then(lr D.2.1).bind λa1=>some ([y,a1]:cO)else bif decide (D.1=2)then(lr D.2.1).bind λa6=>(lr D.2.2.1).bind λa7=>some ([y,a6,a7]:cO)else(wD x D.2.1).bind λF=>J (([y]:cO).length+F.length<=1000000000)<|bif decide (D.1=3)then(wD x D.2.2.1).bind λL=>J (0<=(1:Int)/\(1:Int)<=(L.length:Int)/\(L.length:Int)<=L.length)<|J ((([y]:cO)++F).length+((L.take (L.length:Int).toNat).drop (1:Int).toNat).length<=1000000000)<|some ((([y]:cO)++F)++((L.take (L.length:Int).toNat).drop (1:Int).toNat))else bif decide (D.1=4)then(lr D.2.2.1).bind λO=>J ((([y]:cO)++F).length+([O]:cO).length<=1000000000)<|some ((([y]:cO)++F)++([O]:cO))else bif decide (D.1=5)then(lr D.2.2.1).bind λU=>(lr D.2.2.2.1).bind λY=>J ((([y]:cO)++F).length+([U,Y]:cO).length<=1000000000)<|some ((([y]:cO)++F)++([U,Y]:cO))else bif decide (D.1=6)then(ag x.2.2 D.2.2.1).bind λaz=>J ((([y]:cO)++F).length+([az.2]:cO).length<=1000000000)<|some ((([y]:cO)++F)++([az.2]:cO))else bif decide (D.1=7)then(ag x.2.2 D.2.2.1).bind λaE=>(lr D.2.2.2.1).bind λZ=>J ((([y]:cO)++F).length+([aE.2,Z]:cO).length<=1000000000)<|some ((([y]:cO)++F)++([aE.2,Z]:cO))else bif decide (D.1=8)then(ag x.2.2 D.2.2.1).bind λar=>(lr D.2.2.2.1).bind λah=>(lr D.2.2.2.2).bind λan=>J ((([y]:cO)++F).length+([ar.2,ah,an]:cO).length<=1000000000)<|some ((([y]:cO)++F)++([ar.2,ah,an]:cO))else bif decide (D.1=9)then(lr D.2.2.1).bind λM=>J ((([y]:cO)++F).length+([M]:cO).length<=1000000000)<|(wD x D.2.2.2.1).bind λN=>J (((([y]:cO)++F)++([M]:cO)).length+N.length<=1000000000)<|some (((([y]:cO)++F)++([M]:cO))++N)else some (([y]:cO)++F)
def zF:Lp (We×V_h) (Unit⊕bH×Ch):=λ(F,L,D,M,N,O,_)=>bif decide (D<(F.length:Int))then(ag F D).bind λZ=>(mS (M,N,O) Z.1).bind λY=>(wm Y L).bind λU=>bif U then(ag F D).bind λah=>some (.inr (.inr (ah.2,0,())))else J (ab .i64 (D+1))<|some (.inl (F,L,(D+1),M,N,O,()))else some (.inr (.inl (())))
def r7(x:H6)(x1:We)(D:cO)(l:List bH):Option (bH×Int):=(KM D).bind λY=>bif Y then(ag D 1).bind λah=>(oZ ah).bind λF=>(ag D 2).bind λan=>(oZ an).bind λL=>(J8 x D).bind λO=>bif decide (F.1<1)then some ([],4)else bif decide (L.1<1)then some ([],4)else bif decide ((l.length:Int)<F.1)then some ([],4)else bif decide ((l.length:Int)<L.1)then some ([],4)else bif decide (O=0)then some ([],4)else J (ab .i64 (F.1-1))<|J (0<=(F.1-1)/\(F.1-1)<l.length)<|(l[(F.1-1).toNat]?).bind λy=>J (ab .i64 (L.1-1))<|J (0<=(L.1-1)/\(L.1-1)<l.length)<|(l[(L.1-1).toNat]?).bind λa1=>(LD y a1 O).bind λN=>bif !N.2 then some ([],9)else some (N.1,0)else(ag D 0).bind λar=>(rN ar).bind λM=>bif decide ((M.length:Int)=0)then some ([],1)else(zp D M).bind λU=>bif !U then some ([],1)else(ae zF (x1,D,0,x.1,x.2.1,x.2.2,())).bind λZ=>match Z with|.inl (_)=>some ([],4)|.inr (az,aE,_)=>some (az,aE)
def qj:Lp (List (Int×cO×bH)×We×Int×Wf×Ci×Wd×List bH×Unit) (List bH×Unit⊕Int×Ch):=λ(F,Y,D,N,O,U,L,_)=>bif decide (D<(F.length:Int))then bif decide (D=0)then(ag F 0).bind λah=>(wm ah.2.1 ([rM]:cO)).bind λZ=>bif !Z then(ag F 0).bind λan=>some (.inr (.inr (an.1,1,())))else J (ab .i64 (D+1))<|some (.inl (F,Y,(D+1),N,O,U,L,()))else(ag F D).bind λar=>(r7 (N,O,U) Y ar.2.1 L).bind λM=>bif !decide (M.2=0)then(ag F D).bind λaz=>some (.inr (.inr (az.1,M.2,())))else J (L.length+([M.1]:List bH).length<=1000000000)<|J (ab .i64 (D+1))<|some (.inl (F,Y,(D+1),N,O,U,(L++([M.1]:List bH)),()))else some (.inr (.inl (L,())))
def ER(x:H6)(L:kr):Option (Int×Int):=J (ab .i64 ((L.length:Int)+1))<|(DL L ((L.length:Int)+1)).bind λF=>bif !decide (F.2.1=0)then some (F.2.2.1,F.2.1)else(Dr x).bind λM=>(J1 x).bind λN=>bif decide (400<N)then some (0,2)else bif decide (8000<(M.length:Int))then some (0,2)else(ae qj (F.1,M,0,x.1,x.2.1,x.2.2,[],())).bind λo=>match o with|.inl (D,_)=>bif decide ((D.length:Int)=0)then some (0,9)else J (ab .i64 ((D.length:Int)-1))<|J (0<=((D.length:Int)-1)/\((D.length:Int)-1)<D.length)<|(D[((D.length:Int)-1).toNat]?).bind λy=>bif decide (0<(y.length:Int))then some (0,9)else some (0,0)|.inr (O,U,_)=>some (O,U)
def I7(c:(kr×kr×cO)×kr)(s:kr):O4:=(yS c).bind λD=>yR.bind λL=>bif !L then yR.bind λM=>some M else bif !D.2 then yR.bind λN=>some N else bif decide (5000<(s.length:Int))then yR.bind λO=>some O else(vX s D.1.1 D.1.2.1).bind λF=>(L2 D.1.2.2.1 D.1.2.2.2).bind λU=>(ER U s).bind λJ=>bif decide (F.2.1=J.1)then bif decide (F.1=J.2)then some (decide (F.2.2=0))else some false else some false
def xx{β:Type}(ok:aa->Bool)(val:aa->β)(L:aD)(k:Nat)(x:Option ((β×(aD×Int)×Unit)⊕(Value×Unit))):Prop:=
 (∃h:k<L.2.1.length,ok (L.2.1[k])=true/\x=some (.inl (val (L.2.1[k]),(L,((k+1:Nat):Int)),())))\/((∀h:k<L.2.1.length,ok (L.2.1[k])=false)/\∃D,x=some (.inr (bV 1 L.1 D,())))
def Ig{β:Type}(T:aD×Int->Option ((β×(aD×Int)×Unit)⊕(Value×Unit)))(ok:aa->Bool)(val:aa->β):Prop:=
 ∀(L:aD) (k:Nat),bD L->k<=L.2.1.length->xx ok val L k (T (L,(k:Int)))
theorem T3{β:Type}{T:aD×Int->Option ((β×(aD×Int)×Unit)⊕(Value×Unit))}{ok:aa->Bool}{val:aa->β}(P:aa->Option (β×Bool))
  (hT:∀o,T o=(dS o).bind (λO=>match O with
   |.inl (w,o',_)=>(P w).bind λr=>bif !r.2 then(aZ 1 o').bind (λ(J,_)=>some (.inr (J,())))else some (.inl (r.1,o',()))
   |.inr (J,_)=>some (.inr (J,()))))
  (M:∀w,w.length<=20000->∃x,P w=some (x,ok w)/\(ok w=true->x=val w)):Ig T ok val:=by
 intro L k D hk;by_cases h:k<L.2.1.length
 ·obtain⟨x,N,U⟩:=M (L.2.1[k]) (by have:=(D.2.2 _ (at2 h)).2;omega)
  rw[hT,me L D k h];cases F:ok (L.2.1[k])with
  |true=>refine .inl ⟨h,F,?_⟩;grind
  |false=>refine .inr ⟨λ_=>F,aG L (k+1),?_⟩;simp only[K0,N,F,bP 1 L D (k+1) h]
 ·refine .inr ⟨λq=>absurd q h,0,?_⟩;rw[hT,Aq L k h,at0]
theorem Ul:Ig CJ dt id:=T3 Kd (λo=>rfl) λw hw=>⟨w,by unfold Kd;rw[yX w hw];rfl,λ_=>rfl⟩
theorem TY:Ig CH bQ id:=T3 J5 (λo=>rfl) λw hw=>⟨w,by unfold J5;rw[vV w hw];rfl,λ_=>rfl⟩
theorem aqc:Ig yt cr aO:=T3 vT (λo=>rfl) λw hw=>by
 rw[Qc w hw];unfold jG;cases h:cr w with
 |true=>grind
 |false=>grind
theorem akp(L:aD)(N:bD L)(k:Nat)(hk:k<=L.2.1.length)(w:aa)(O:w.length<=9)(F:Int):
  ae rF (F,w,0,(w.length:Int),0,L.1,L.2.1,L.2.2,(k:Int),())=some (if w.all bJ=true then .inl (F,((aW w:Nat):Int),L.1,L.2.1,L.2.2,(k:Int),())else .inr (bV 1 L.1 (aG L k),())):=by
 have hf:=bP 1 L N k hk;refine Sq (f:=rF) w (λj n=>(F,w,n,w.length,j,L.1,L.2.1,L.2.2,k,())) (λn=>.inl (F,n,L.1,L.2.1,L.2.2,k,())) (.inr (bV 1 L.1 (aG L k),())) (λj h n J D=>?_) (λj h n J D=>?_) λn=>?_
 ·have hp:=LJ J (by omega)
  have D:=nV D;have h1:ab .i64 (((w[j]).toNat)-48):=ba (by omega)
  have hu:ab .u8 (((w[j]).toNat)-48):=by rw[ud];omega
  have M:(10*n)+(((w[j]).toNat)-48)=((kS n w[j]):Int):=by unfold kS;omega
  simp (disch:=omega) only[K0,rF,RX h1,M]
 ·have D:=MH D;by_cases a:(w[j]).toNat<48
  ·simp (disch:=omega) only[K0,rF,hf]
  ·simp (disch:=omega) only[K0,rF,hf]
 ·simp[rF]
theorem Tt:Ig vS cC (λw=>((aW w:Nat):Int)):=by
 intro L k D hk;by_cases h:k<L.2.1.length
 ·have hw:=D.2.2 _ (at2 h);have hf:aZ 1 (L,((k+1:Nat):Int))=some (bV 1 L.1 (aG L (k+1)),()):=bP 1 L D (k+1) h;have U:=me L D k h;generalize F:L.2.1[k]=w at hw U;have O:∀{x},cC w=false->x=some (.inr (bV 1 L.1 (aG L (k+1)),()))->xx cC (λw=>((aW w):Int)) L k x:=λ{x} a b=>.inr ⟨λ_=>by rw[F];exact a,_,b⟩
  unfold vS I6;simp[U];simp (disch:=omega) only[K0];by_cases c2:9<(w.length:Int)
  ·refine O ?_ ?_
   ·grind[cC]
   ·grind
  ·rw[dN c2];have hl:=akp L D (k+1) h w (by omega) 1099511627776
   have fin:gQ w=true->xx cC (λw=>((aW w):Int)) L k ((ae rF (1099511627776,w,0,w.length,0,L.1,L.2.1,L.2.2,((k+1:Nat):Int),())).bind λa6=>
      match a6 with
      |.inl (az,Y,Z,ah,an,ar,_)=>bif decide (az<Y)then(aZ 8 ((Z,ah,an),ar)).bind λ(a7,_)=>some (au8 (a7,()))else some (au6 (Y,((Z,ah,an),ar),()))
      |.inr (a8,_)=>some (au8 (a8,()))):=λhh=>by
    rw[hl];have N:cC w=w.all bJ:=by unfold cC;rw[dY (by omega),dY (by omega),hh];simp
    cases M:w.all bJ with
    |true=>
     have:=FE w M;have:=LJ this (by omega)
     refine .inl ⟨h,by rw[F,N,M],?_⟩
     rw[if_pos rfl];simp (disch:=omega) only[K0,F]
    |false=>
     refine .inr ⟨λ_=>by rw[F,N,M],aG L (k+1),?_⟩
     rw[if_neg (by simp)];rfl
   have out:∀x:Option ((Int×(aD×Int)×Unit)⊕(Value×Unit)),xx cC (λw=>((aW w):Int)) L k x->xx cC (λw=>((aW w):Int)) L k (x.bind λa1=>match a1 with
     |.inl (number,aE,_)=>some (au6 (number,aE,()))
     |.inr (pv,_)=>some (au8 (pv,()))):=λx h=>by
    rcases x with _|⟨_,_,_⟩|⟨_,_⟩<;>exact h
   by_cases c3:1<(w.length:Int)
   ·simp (disch:=omega) only[K0];by_cases J:((w[0]'(by omega)).toNat:Int)=48
    ·refine O ?_ ?_
     ·unfold cC;rw[Lj (by omega) (A7.1 J)];simp
     ·simp (disch:=omega) only[K0,hf]
    ·rw[dN J];exact out _ (fin (Rr (by omega) λe=>J (A7.2 e)))
   ·rw[dN c3];exact out _ (fin (Rs (by omega)))
 ·refine .inr ⟨λq=>absurd q h,0,?_⟩;unfold vS I6;simp[Aq L k h]
theorem UG(L:aD)(F:bD L)(k:Nat)(hk:k<=L.2.1.length):(k=L.2.1.length/\qk (L,(k:Int))=some (.inl ((L,(k:Int)),())))\/(k<L.2.1.length/\∃D,qk (L,(k:Int))=some (.inr (bV 1 L.1 D,()))):=by
 unfold qk;rw[fC];by_cases h:k<L.2.1.length
 ·simp only[K0,bP 1 L F k hk];grind
 ·grind
variable {A:List aq} {R:List av}
def tk(ok:aa->Bool):ak->Option (aa×ak)
 |w::r=>if ok w=true then some (w,r)else none
 |[]=>none
theorem xx.tk{β:Type}{ok:aa->Bool}{val:aa->β}{L:aD}{k:Nat}{x:Option ((β×(aD×Int)×Unit)⊕(Value×Unit))}(h:xx ok val L k x):
  (∃w,k<L.2.1.length/\w=(L.2.1[k]?).getD []/\ok w=true/\Fx.tk ok (L.2.1.drop k)=some (w,L.2.1.drop (k+1))/\x=some (.inl (val w,(L,((k+1:Nat):Int)),())))\/(Fx.tk ok (L.2.1.drop k)=none/\∃D,x=some (.inr (bV 1 L.1 D,()))):=by
 rcases h with⟨h,h1,h2⟩|⟨h1,h2⟩
 ·refine .inl ⟨L.2.1[k],h,by rw[au4 h];rfl,h1,?_,h2⟩
  rw[av6 h];exact if_pos h1
 ·refine .inr ⟨?_,h2⟩;by_cases q:k<L.2.1.length
  ·rw[av6 q];exact if_neg (by grind)
  ·rw[az3 (by omega)];rfl
def gA(A:List aq)(n w s:aa):Int:=bC A λy=>decide (iB y=(n,w,s))
theorem ap6(hA:bR A)(n w s:aa)(hw:cr w=true):KX (A.map bw) n (aO w) s=some (gA A n w s):=by
 have hs:=hA.many
 have hp:∀x (F:dM x.1),JV (bw x) n (aO w) s=some (decide (iB x=(n,w,s))):=λx F=>by
  unfold JV bw cZ iB;have J:(decide ((aO x.1.2.1).1.1=(aO w).1.1)&&(decide ((aO x.1.2.1).1.2.1=(aO w).1.2.1)&&(decide ((aO x.1.2.1).1.2.2=(aO w).1.2.2)&&decide ((aO x.1.2.1).2=(aO w).2))))=decide (x.1.2.1=w):=by rw[aB9];simp[decide_eq_true_eq];refine⟨λ⟨a,b,c,d⟩=>Lt F.cD hw (Prod.ext (Prod.ext a (Prod.ext b c)) d),λe=>by rw[e];exact⟨rfl,rfl,rfl,rfl⟩⟩
  rw[J];by_cases a:x.1.1=n
  ·rw[dY a];by_cases b:x.1.2.1=w
   ·simp_all
   ·simp_all
  ·simp_all
 have L:(A.map bw).length=A.length:=au1 _
 have h:=jc (f:=CF) A (λy=>decide (iB y=(n,w,s))) (λk=>(A.map bw,n,aO w,s,((A.map bw).length),k,())) (λk=>au8 (k,())) (au6 ()) (λk h D=>by
  simp (disch:=omega) only[K0,CF,ax8,hp _ (hA.dp _ (at2 h)),D]) (λk h D=>by
  simp (disch:=omega) only[K0,CF,ax8,hp _ (hA.dp _ (at2 h)),D]) (by
  simp[CF])
 grind[KX,PE,gA,bC]
def kp(A:List aq)(n:aa)(ws:ak):Option (Int×ak):=
 (tk cr ws).bind λv=>(tk bQ v.2).bind λs=>some (gA A n v.1 s.1,s.2)
theorem Uo(hA:bR A)(n:aa)(L:aD)(k:Nat)(F:bD L)(hk:k<=L.2.1.length):
  (∃i,kp A n (L.2.1.drop k)=some (i,L.2.1.drop (k+2))/\k+2<=L.2.1.length/\vH n (A.map bw) (L,(k:Int))=some (.inl (i,(L,((k+2:Nat):Int)),())))\/
  (kp A n (L.2.1.drop k)=none/\∃D,vH n (A.map bw) (L,(k:Int))=some (.inr (bV 1 L.1 D,()))):=by
 unfold vH kp;rcases(aqc L k F hk).tk with⟨v,h1,_,J,t1,e⟩|⟨t1,D,e⟩
 ·rw[e];simp only[at0];rcases(TY L (k+1) F h1).tk with⟨s,h2,_,_,t2,e⟩|⟨t2,D,e⟩
  ·rw[e];simp[ap6 hA n v s J];grind
  ·grind
 ·grind
def dH(A:List aq)(T:aV):aa->aa->ak->Option (List Int×ak)
 |[],_,ws=>some ([],ws)
 |c::D,n,ws=>
  if c=110 then(tk cC ws).bind λw=>(dH A T D n w.2).map λr=>(((aW w.1:Nat):Int)::r.1,r.2)
  else if c=99 then(tk dt ws).bind λm=>(kp A m.1 m.2).bind λi=>(dH A T D m.1 i.2).map λr=>(i.1::r.1,r.2)
  else if c=118 then(kp A n ws).bind λi=>(dH A T D n i.2).map λr=>(i.1::r.1,r.2)
  else(tk bQ ws).bind λf=>(dH A T D n f.2).map λr=>((db A.length T (n,f.1)-(A.length:Int)-1)::r.1,r.2)
theorem amM(hA:bR A)(hT:(aA A R).length<=400)(Z no:Int)(ws:ak)(cs:List Int)(hL:bD (no,ws,cs))(D:aa)(hf:∀b∈D,uz b)(h5:D.length<=5):∀m j (N:List Int) (F:aa) (k:Nat),D.length-j=m->j<=D.length->N.length=j->k<=ws.length->
  (∃r Y,Y<=ws.length/\dH A (aA A R) (D.drop j) F (ws.drop k)=some (r,ws.drop Y)/\r.length=m/\ae jy (Z,F,D,(j:Int),N,A.map bw,bA A R,no,ws,cs,(k:Int),())=some (.inl (Z,N++r,bA A R,no,ws,cs,((Y:Nat):Int),())))\/
  (dH A (aA A R) (D.drop j) F (ws.drop k)=none/\∃M,ae jy (Z,F,D,(j:Int),N,A.map bw,bA A R,no,ws,cs,(k:Int),())=some (.inr (bV 1 no M,()))):=by
 have hs:=hA.many;intro m
 induction m with
 |zero=>
  intro j N F k hm hj hg hk;obtain rfl:j=D.length:=by omega
  exact .inl ⟨[],k,hk,by rw[ay8];rfl,rfl,bf (by rw[List.append_nil];simp[jy,av8,decide_false,cond_false])⟩
 |succ m ih=>
  intro j N F k hm hj hg hk;have h:j<D.length:=by omega
  have hd:∀x:Int,(N++[x]).length=j+1:=λx=>by rw[au5,hg];rfl
  have cg:∀{R:Type} x (q:Option R),J (N.length+[x].length<=1000000000) q=q:=λx q=>mZ (by omega)
  have ah:D.drop j=D[j]::D.drop (j+1):=av6 h
  have next:∀{x:Int} {n:aa} {k1:Nat} {y:Option (List Int×ak)},k1<=ws.length->y=(dH A (aA A R) (D.drop (j+1)) n (ws.drop k1)).map (λr=>(x::r.1,r.2))->
    jy (Z,F,D,j,N,A.map bw,bA A R,no,ws,cs,k,())=some (.inl (Z,n,D,((j+1:Nat):Int),N++[x],A.map bw,bA A R,no,ws,cs,k1,()))->
    (∃r Y,Y<=ws.length/\y=some (r,ws.drop Y)/\r.length=m+1/\ae jy (Z,F,D,j,N,A.map bw,bA A R,no,ws,cs,k,())=some (.inl (Z,N++r,bA A R,no,ws,cs,(Y:Int),())))\/
    (y=none/\∃M,ae jy (Z,F,D,j,N,A.map bw,bA A R,no,ws,cs,k,())=some (.inr (bV 1 no M,()))):=λ{x n k1 y} h1 hy e=>by
   rw[bd e];rcases ih (j+1) (N++[x]) n k1 (by omega) h (hd x) h1 with⟨r,Y,h2,L,U,e3⟩|⟨L,M,e3⟩
   ·exact .inl ⟨x::r,Y,h2,by rw[hy,L];rfl,by rw[av1,U],by rw[e3,List.append_assoc];rfl⟩
   ·exact .inr ⟨by rw[hy,L];rfl,M,e3⟩
  rw[ah];rcases hf _ (at2 h)with e|e|e|e
  ·have O:(D[j]).toNat=110:=by rw[e];rfl
   rcases(Tt (no,ws,cs) k hL hk).tk with⟨w,h1,_,_,t1,L⟩|⟨t1,M,L⟩
   ·have t1:tk cC (ws.drop k)=some (w,ws.drop (k+1)):=t1;refine next (x:=((aW w):Int)) (n:=F) (k1:=k+1) h1 (by rw[dH,if_pos e,t1];rfl) ?_
    simp (disch:=omega) only[K0,jy,O,L,cg]
   ·have t1:tk cC (ws.drop k)=none:=t1;refine .inr ⟨by rw[dH,if_pos e,t1];rfl,M,bf ?_⟩
    simp (disch:=omega) only[K0,jy,O,L]
  ·have O:(D[j]).toNat=99:=by rw[e];rfl
   have ne:¬D[j]=110:=by rw[e];decide
   rcases(Ul (no,ws,cs) k hL hk).tk with⟨w,h1,_,_,t1,L⟩|⟨t1,M,L⟩
   ·have t1:tk dt (ws.drop k)=some (w,ws.drop (k+1)):=t1;rcases Uo hA w (no,ws,cs) (k+1) hL h1 with⟨i,t2,h2,U⟩|⟨t2,M,U⟩
    ·have t2:kp A w (ws.drop (k+1))=some (i,ws.drop (k+1+2)):=t2;refine next (x:=i) (n:=w) (k1:=k+1+2) h2 (by rw[dH,if_neg ne,if_pos e,t1,at0,t2];rfl) ?_
     simp (disch:=omega) only[K0,jy,O,L,U,id,cg]
    ·have t2:kp A w (ws.drop (k+1))=none:=t2;refine .inr ⟨by simp (disch:=omega) only[K0,dH,t1,t2];rfl,M,bf ?_⟩
     simp (disch:=omega) only[K0,jy,O,L,U,id]
   ·have t1:tk dt (ws.drop k)=none:=t1;refine .inr ⟨by rw[dH,if_neg ne,if_pos e,t1];rfl,M,bf ?_⟩
    simp (disch:=omega) only[K0,jy,O,L]
  ·have O:(D[j]).toNat=118:=by rw[e];rfl
   have n1:¬D[j]=110:=by rw[e];decide
   have n2:¬D[j]=99:=by rw[e];decide
   rcases Uo hA F (no,ws,cs) k hL hk with⟨i,t2,h2,U⟩|⟨t2,M,U⟩
   ·have t2:kp A F (ws.drop k)=some (i,ws.drop (k+2)):=t2;refine next (x:=i) (n:=F) (k1:=k+2) h2 (by rw[dH,if_neg n1,if_neg n2,if_pos e,t2];rfl) ?_
    simp only[jy,dY (show(j:Int)<D.length by omega),cond_true,cond_false,aI h,O,ai (show 118<128 by decide),dN (show¬((118:Nat):Int)=110 by decide),dN (show¬((118:Nat):Int)=99 by decide),dY (show((118:Nat):Int)=118 by rfl),U,at0,cg,aS]
   ·have t2:kp A F (ws.drop k)=none:=t2;refine .inr ⟨by simp (disch:=omega) only[K0,dH,t2];rfl,M,bf ?_⟩
    simp only[jy,dY (show(j:Int)<D.length by omega),cond_true,cond_false,aI h,O,ai (show 118<128 by decide),dN (show¬((118:Nat):Int)=110 by decide),dN (show¬((118:Nat):Int)=99 by decide),dY (show((118:Nat):Int)=118 by rfl),U,at0]
  ·have O:(D[j]).toNat=102:=by rw[e];rfl
   have n1:¬D[j]=110:=by rw[e];decide
   have n2:¬D[j]=99:=by rw[e];decide
   have n3:¬D[j]=118:=by rw[e];decide
   rcases(TY (no,ws,cs) k hL hk).tk with⟨w,h1,_,_,t1,L⟩|⟨t1,M,L⟩
   ·have t1:tk bQ (ws.drop k)=some (w,ws.drop (k+1)):=t1;have hr:=tJ A.length (aA A R) (F,w);have U:=S5 A hA R hT (F,w);refine next (x:=db A.length (aA A R) (F,w)-A.length-1) (n:=F) (k1:=k+1) h1 (by rw[dH,if_neg n1,if_neg n2,if_neg n3,t1];rfl) ?_
    simp only[jy,dY (show(j:Int)<D.length by omega),cond_true,cond_false,aI h,O,ai (show 102<128 by decide),dN (show¬((102:Nat):Int)=110 by decide),dN (show¬((102:Nat):Int)=99 by decide),dN (show¬((102:Nat):Int)=118 by decide),dY (show((102:Nat):Int)=102 by rfl),L,id,U,at0,au1,ai (show ab .i64 (db A.length (aA A R) (F,w)-A.length) from ba (by omega)),ai (show ab .i64 (db A.length (aA A R) (F,w)-A.length-1) from ba (by omega)),cg,aS]
   ·have t1:tk bQ (ws.drop k)=none:=t1;refine .inr ⟨by simp (disch:=omega) only[K0,dH,t1];rfl,M,bf ?_⟩
    simp only[jy,dY (show(j:Int)<D.length by omega),cond_true,cond_false,aI h,O,ai (show 102<128 by decide),dN (show¬((102:Nat):Int)=110 by decide),dN (show¬((102:Nat):Int)=99 by decide),dN (show¬((102:Nat):Int)=118 by decide),dY (show((102:Nat):Int)=102 by rfl),L,at0]
variable {A:List aq} {R:List av}
def se(A:List aq)(R:List av)(f:aN):Option (List Int):=((iT A R (aA A R)).find? λl=>decide (l.1=f)).map (·.2)
theorem RT(hA:bR A)(hR:bZ R)(hT:(aA A R).length<=400)(f:aN):fP (bA A R) f=some (match se A R f with|some x=>(x,true)|none=>([],false))/\∀x,se A R f=some x->fe x:=by
 unfold se;cases h:(iT A R (aA A R)).find? λl=>decide (l.1=f)with
 |some l=>
  have h1:=aE4 h;have h2:l.1=f:=by grind
  subst h2;refine⟨Yl A hA R hR hT l h1,λx e=>?_⟩;cases e;have:=(apg A hA.many R hT l h1).1;exact⟨show l.2.length<=2001 by omega,anF hA.many hT l h1⟩
 |none=>
  refine⟨aoK A hA R hR hT f λq=>?_,λx e=>by cases e⟩
  obtain⟨l,D,e⟩:=ax1.1 ((LA A R (aA A R)).mem_iff.2 q);grind
def kj(L:aD)(y:Int×List Int)(r:Ur):Prop:=(y.1=0/\fe y.2/\r=some (.inl (y.2,(L,((L.2.1.length:Nat):Int)),())))\/(¬y.1=0/\∃D,r=some (.inr (bV y.1 L.1 D,())))
theorem kj.stop{L:aD}{e D:Int}{x:List Int}(h:¬e=0):kj L (e,x) (some (.inr (bV e L.1 D,()))):=.inr ⟨h,D,rfl⟩
def lJ(i:Int)(r:List Int):aN:=(i,((r++[0,0,0])[0]?).getD 0,((r++[0,0,0])[1]?).getD 0,((r++[0,0,0])[2]?).getD 0,((r++[0,0,0])[3]?).getD 0)
def xc(A:List aq)(R:List av)(i:Int)(D:aa)(ws:ak):Int×List Int:=
 match dH A (aA A R) D [] ws with
 |some (r,[])=>match se A R (lJ i r)with|some x=>(0,x)|none=>(4,[])
 |_=>(1,[])
def jW:ak:=[[],OC,Nj,Nk,Nl,MN,Nn,MP,Mu,MO]
theorem as0(hA:bR A)(hR:bZ R)(hT:(aA A R).length<=400)(i:Nat)(h0:1<=i)(h9:i<=9)(L:aD)(k:Nat)(O:bD L)(hk:k<=L.2.1.length):
  kj L (xc A R (i:Int) ((jW[i]?).getD []) (L.2.1.drop k)) (I1 (i:Int) (A.map bw) (bA A R) (L,(k:Int))):=by
 obtain⟨D,az,e9,hf,h1,h5⟩:∃D,(∀{R:Type} f,DD.bind (λl=>(ag l i).bind f)=f D)/\(jW[i]?).getD []=D/\(∀b∈D,uz b)/\1<=D.length/\D.length<=5:=by
  have key:∀D:aa,jW[i]? =some D->D.all (λb=>b==110||b==99||b==118||b==102)=true->1<=D.length->D.length<=5->∃D,(∀{R:Type} (f:aa->Option R),DD.bind (λl=>(ag l i).bind f)=f D)/\(jW[i]?).getD []=D/\(∀b∈D,uz b)/\1<=D.length/\D.length<=5:=by
   intro D h a b c;refine⟨D,λf=>?_,by rw[h];rfl,λx hx=>?_,b,c⟩
   ·unfold DD;rw[at0];unfold ag;rw[if_pos (by simp),av0,show[[],OC,Nj,Nk,Nl,MN,Nn,MP,Mu,MO]=jW from rfl,h];rfl
   ·have:=ax0.1 a x hx;unfold uz;simpa[or_assoc]using this
  match i,h0,h9 with
  |1,_,_=>exact key OC rfl rfl (by decide) (by decide)
  |2,_,_=>exact key Nj rfl rfl (by decide) (by decide)
  |3,_,_=>exact key Nk rfl rfl (by decide) (by decide)
  |4,_,_=>exact key Nl rfl rfl (by decide) (by decide)
  |5,_,_=>exact key MN rfl rfl (by decide) (by decide)
  |6,_,_=>exact key Nn rfl rfl (by decide) (by decide)
  |7,_,_=>exact key MP rfl rfl (by decide) (by decide)
  |8,_,_=>exact key Mu rfl rfl (by decide) (by decide)
  |9,_,_=>exact key MO rfl rfl (by decide) (by decide)
 rw[e9];unfold I1 xc;rw[az];rcases amM hA hT i L.1 L.2.1 L.2.2 O D hf h5 D.length 0 [] [] k rfl (au2 _) rfl hk with⟨r,k1,aE,M,U,e⟩|⟨M,ar,e⟩
 ·have e:ae jy (i,[],D,0,[],A.map bw,bA A R,L.1,L.2.1,L.2.2,k,())=_:=e;rw[ax7]at M;rw[e,M];simp only[at0,aB4];rcases UG L O k1 aE with⟨q,F⟩|⟨q,ar,F⟩
  ·have F:qk ((L.1,L.2.1,L.2.2),k1)=_:=F;have hlen:(r++[0,0,0]).length=D.length+3:=by rw[au5,U];rfl
   have N:∀n {R:Type} (q:Option R),n<=3->J (0<=((n:Nat):Int)/\(n:Int)<((r++[0,0,0]).length)) q=q:=λn R q h=>ai ⟨by omega,by omega⟩
   have g:∀n:Nat,n<=3->(r++[0,0,0])[(n:Int).toNat]? =some (((r++[0,0,0])[n]?).getD 0):=λn h=>by rw[av0,au4 (by omega)];rfl
   have Y:∀{R:Type} (q:Option R),J (0<=(0:Int)/\0<((r++[0,0,0]).length:Int)) q=q:=λq=>N 0 q (by simp)
   have Z:∀{R:Type} (q:Option R),J (0<=(1:Int)/\1<((r++[0,0,0]).length:Int)) q=q:=λq=>N 1 q (by simp)
   have ah:∀{R:Type} (q:Option R),J (0<=(2:Int)/\2<((r++[0,0,0]).length:Int)) q=q:=λq=>N 2 q (by simp)
   have an:∀{R:Type} (q:Option R),J (0<=(3:Int)/\3<((r++[0,0,0]).length:Int)) q=q:=λq=>N 3 q (by simp)
   rw[F,az3 (by omega)]
   simp only[at0];rw[ai (show r.length+([0,0,0]:List Int).length<=1000000000 by rw[U];show D.length+3<=1000000000;omega)]
   rw[Y,show(r++[0,0,0])[(0:Int).toNat]? =_ from g 0 (by simp),at0]
   rw[Z,show(r++[0,0,0])[(1:Int).toNat]? =_ from g 1 (by simp),at0]
   rw[ah,show(r++[0,0,0])[(2:Int).toNat]? =_ from g 2 (by simp),at0]
   rw[an,show(r++[0,0,0])[(3:Int).toNat]? =_ from g 3 (by simp),at0]
   obtain⟨e3,a1⟩:=RT hA hR hT (lJ i r);rw[show fP (bA A R) (i,((r++[0,0,0])[0]?).getD 0,((r++[0,0,0])[1]?).getD 0,((r++[0,0,0])[2]?).getD 0,((r++[0,0,0])[3]?).getD 0)=_ from e3,q]
   cases hc:se A R (lJ i r)with
   |some x=>exact .inl ⟨rfl,a1 x hc,rfl⟩
   |none=>
    simp only[K0];rw[show aZ 4 (L,L.2.1.length)=_ from bP 4 L O _ (at9 _)]
    exact kj.stop (by simp)
  ·have F:qk ((L.1,L.2.1,L.2.2),k1)=_:=F;rw[F];cases hd:L.2.1.drop k1 with
   |nil=>rw[aI7]at hd;omega
   |cons=>exact kj.stop (by simp)
 ·have e:ae jy (i,[],D,0,[],A.map bw,bA A R,L.1,L.2.1,L.2.2,k,())=_:=e;rw[ax7]at M;rw[e,M];exact kj.stop (by simp)
def iP(A:List aq)(T:aV)(ws:ak):Option (Int×Int×Int):=
 (tk cC ws).bind λa=>(tk cC a.2).bind λb=>(tk (λ_=>true) b.2).bind λw=>
  if w.1=ph then(tk dt w.2).bind λn=>(kp A n.1 n.2).bind λi=>if i.2=[]then some (((aW a.1:Nat):Int),((aW b.1:Nat):Int),i.1+1)else none
  else if w.1=gy then(tk dt w.2).bind λn=>(tk bQ n.2).bind λf=>if f.2=[]then some (((aW a.1:Nat):Int),((aW b.1:Nat):Int),db A.length T (n.1,f.1))else none
  else none
def F6(cl:List (List Int))(j:Int×Int×Int):Int×List Int:=
 if j.1<1\/j.2.1<1\/(cl.length:Int)<j.1\/(cl.length:Int)<j.2.1\/j.2.2=0 then(4,[])
 else match(fW ((cl[(j.1-1).toNat]?).getD []) ((cl[(j.2.1-1).toNat]?).getD []) j.2.2).or (fW ((cl[(j.2.1-1).toNat]?).getD []) ((cl[(j.1-1).toNat]?).getD []) j.2.2)with
  |some x=>(0,x)
  |none=>(9,[])
def qM(A:List aq)(R:List av)(cl:List (List Int))(ws:ak):Int×List Int:=
 match iP A (aA A R) ws with
 |some j=>F6 cl j
 |none=>(1,[])
theorem amD(D F v:Int)(hv:v<=1000)(cl:List (List Int))(M:∀x∈cl,fe x)(hlen:cl.length<=1000000)(L:aD)(k:Nat)(U:bD L)(hk:k<=L.2.1.length):
  kj L (if L.2.1.drop k=[]then F6 cl (D,F,v)else(1,[])) (Ug D F v cl (L,(k:Int))):=by
 unfold Ug;rcases UG L U k hk with⟨q,O⟩|⟨q,ar,O⟩
 rotate_left
 ·rw[O,if_neg (by rw[aI7];omega)];exact kj.stop (by simp)
 rw[O,if_pos (by grind)]
 subst q;simp only[at0];have f4:kj L (4,[]) ((aZ 4 (L,(L.2.1.length:Int))).bind λ(pv,_)=>some (.inr (pv,()))):=by rw[bP 4 L U _ (at9 _)];exact kj.stop (by simp)
 have f9:kj L (9,[]) ((aZ 9 (L,(L.2.1.length:Int))).bind λ(pv,_)=>some (.inr (pv,()))):=by rw[bP 9 L U _ (at9 _)];exact kj.stop (by simp)
 unfold F6;by_cases c1:D<1
 ·rw[dY c1,if_pos (.inl c1)];exact f4
 ·rw[dN c1];by_cases c2:F<1
  ·simp (disch:=omega) only[K0];exact f4
  ·rw[dN c2];by_cases c3:cl.length<D
   ·simp (disch:=omega) only[K0];exact f4
   ·rw[dN c3];by_cases c4:cl.length<F
    ·simp (disch:=omega) only[K0];exact f4
    ·rw[dN c4];by_cases N:v=0
     ·rw[dY N,if_pos (.inr (.inr (.inr (.inr N))))];exact f4
     ·rw[dN N,if_neg (by grind)]
      obtain⟨i,rfl⟩:∃i:Nat,D=(i:Int)+1:=⟨(D-1).toNat,by omega⟩
      obtain⟨j,rfl⟩:∃j:Nat,F=(j:Int)+1:=⟨(F-1).toNat,by omega⟩
      have Y:i<cl.length:=by omega
      have Z:j<cl.length:=by omega
      have ei:(i:Int)+1-1=i:=by omega
      have ej:(j:Int)+1-1=j:=by omega
      have k1:∀{R:Type} (q:Option R),J (ab .i64 i) q=q:=λq=>ai (ba (by omega))
      have k2:∀{R:Type} (q:Option R),J (ab .i64 j) q=q:=λq=>ai (ba (by omega))
      have k3:∀{R:Type} (q:Option R),J (0<=(i:Int)/\i<(cl.length:Int)) q=q:=λq=>ai ⟨by omega,by omega⟩
      have k4:∀{R:Type} (q:Option R),J (0<=(j:Int)/\j<(cl.length:Int)) q=q:=λq=>ai ⟨by omega,by omega⟩
      have g1:=au4 Y;have g2:=au4 Z;obtain⟨hr,ah⟩:=Yx cl[i] cl[j] (M _ (at2 Y)) (M _ (at2 Z)) v hv;obtain⟨hs,an⟩:=Yx cl[j] cl[i] (M _ (at2 Z)) (M _ (at2 Y)) v hv;simp only[ei,ej,k1,k2,k3,k4,av0,g1,g2,at0,Option.getD_some,hr,hs];cases z:fW cl[i] cl[j] v with
      |some r=>exact .inl ⟨rfl,(ah r z).2.2,rfl⟩
      |none=>
       cases z2:fW cl[j] cl[i] v with
       |some r=>exact .inl ⟨rfl,(an r z2).2.2,rfl⟩
       |none=>exact f9
theorem asT(hA:bR A)(hR:bZ R)(hT:(aA A R).length<=400)(cl:List (List Int))(ah:∀x∈cl,fe x)(hlen:cl.length<=1000000)(L:aD)(k:Nat)(N:bD L)(hk:k<=L.2.1.length):
  kj L (qM A R cl (L.2.1.drop k)) (I0 (A.map bw) (bA A R) cl (L,(k:Int))):=by
 have bad:∀{O:Int},iP A (aA A R) (L.2.1.drop k)=none->kj L (qM A R cl (L.2.1.drop k)) (some (.inr (bV 1 L.1 O,()))):=λ{O} h=>by unfold qM;rw[h];exact kj.stop (by omega)
 have aH:∀{n1 n2 v:Int} {Z:Nat},iP A (aA A R) (L.2.1.drop k)=(if L.2.1.drop Z=[]then some (n1,n2,v)else none)->v<=1000->Z<=L.2.1.length->kj L (qM A R cl (L.2.1.drop k)) (Ug n1 n2 v cl (L,Z)):=λ{n1 n2 v Z} h hv h2=>by
  have:=amD n1 n2 v hv cl ah hlen L Z N h2;unfold qM;rw[h];split at this
  ·rename_i q;rw[if_pos q];exact this
  ·rename_i q;rw[if_neg q];exact this
 unfold I0;rcases(Tt L k N hk).tk with⟨a,h1,_,_,t1,D⟩|⟨t1,O,D⟩
 ·rcases(Tt L (k+1) N h1).tk with⟨b,h2,_,_,t2,F⟩|⟨t2,O,F⟩
  ·by_cases h:k+1+1<L.2.1.length
   ·have U:=me L N (k+1+1) h;have t3:tk (λ_=>true) (L.2.1.drop (k+1+1))=some (L.2.1[k+1+1],L.2.1.drop (k+1+1+1)):=by rw[av6 h];rfl
    generalize L.2.1[k+1+1]=w at U t3;by_cases c:w=ph
    ·rcases(Ul L (k+1+1+1) N h).tk with⟨n,h4,_,_,t4,M⟩|⟨t4,O,M⟩
     ·rcases Uo hA n L (k+1+1+1+1) N h4 with⟨i,t5,h5,Y⟩|⟨t5,O,Y⟩
      ·have hi: -1<=i/\i<A.length:=by
         have:=hA.many;unfold kp at t5;obtain⟨v,_,t5⟩:=ay0.1 t5;obtain⟨s,_,t5⟩:=ay0.1 t5;injection t5 with t5;injection t5 with t5;subst t5;unfold gA;rcases kD A (λy=>decide (iB y=(n,v.1,s.1)))with⟨_,q⟩|⟨j,hj,_,q,_⟩<;>omega
       have c1:∀{R:Type} (q:Option R),J (ab .i64 (i+1)) q=q:=λq=>ai (ba (by have:=hA.many;omega))
       simp only[D,F,U,M,Y,id,at0,dY c,c1];refine aH ?_ (by have:=hA.many;omega) h5
       unfold iP;simp (disch:=omega) only[K0,t1,t2,t3,t4,t5]
      ·simp only[D,F,U,M,Y,id,at0,dY c];refine bad ?_;unfold iP;rw[t1,at0,t2,at0,t3,at0,if_pos c,t4,at0,t5];rfl
     ·simp only[D,F,U,M,at0,dY c];refine bad ?_;unfold iP;rw[t1,at0,t2,at0,t3,at0,if_pos c,t4];rfl
    ·by_cases c2:w=gy
     ·rcases(Ul L (k+1+1+1) N h).tk with⟨n,h4,_,_,t4,M⟩|⟨t4,O,M⟩
      ·rcases(TY L (k+1+1+1+1) N h4).tk with⟨f,h5,_,_,t5,Y⟩|⟨t5,O,Y⟩
       ·have hr:=tJ A.length (aA A R) (n,f);have e7:=S5 A hA R hT (n,f);simp only[D,F,U,M,Y,id,e7,at0,dN c,dY c2,cond_true];refine aH ?_ (by have:=hA.many;omega) h5
        unfold iP;rw[t1,at0,t2,at0,t3,at0,if_neg c,if_pos c2,t4,at0,t5,at0]
       ·simp only[D,F,U,M,Y,at0,dN c,dY c2,cond_true];refine bad ?_;unfold iP;rw[t1,at0,t2,at0,t3,at0,if_neg c,if_pos c2,t4,at0,t5];rfl
      ·simp only[D,F,U,M,at0,dN c,dY c2,cond_true];refine bad ?_;unfold iP;rw[t1,at0,t2,at0,t3,at0,if_neg c,if_pos c2,t4];rfl
     ·have hf:aZ 1 (L,((k+1+1+1:Nat):Int))=some (bV 1 L.1 (aG L (k+1+1+1)),()):=bP 1 L N (k+1+1+1) h;simp only[D,F,U,hf,at0,dN c,dN c2,cond_true];refine bad ?_;unfold iP;rw[t1,at0,t2,at0,t3,at0,if_neg c,if_neg c2]
   ·simp only[D,F,Aq L (k+1+1) h,at0];refine bad ?_;unfold iP;rw[t1,at0,t2,at0,az3 (by omega)];rfl
  ·simp only[D,F,at0];refine bad ?_;unfold iP;rw[t1,at0,t2];rfl
 ·simp[D];refine bad ?_;unfold iP;rw[t1];rfl
variable {A:List aq} {R:List av}
def eO:ak:=[[],pg,ub,uq,kG,tV,tW,tX,tP,jg]
def pt(w:aa):Int:=bC eO λx=>decide (x=w)
def nk(A:List aq)(R:List av)(cl:List (List Int))(w:aa)(r:ak):Int×List Int:=
 if w=dL then qM A R cl r else if 1<=pt w then xc A R (pt w) ((jW[(pt w).toNat]?).getD []) r else(1,[])
def xb(A:List aq)(R:List av)(b:Bool)(cl:List (List Int)):ak->Int×Bool×List (List Int)
 |[]=>(1,b,cl)
 |w::r=>if b=false then(if w=rM/\r=[]then(0,true,cl)else(1,b,cl))
  else((nk A R cl w r).1,b,if(nk A R cl w r).1=0 then cl++[(nk A R cl w r).2]else cl)
theorem Ti(b:Bool)(cl:List (List Int))(w:aa)(r:ak):xb A R b cl (w::r)=if b=false then(if w=rM/\r=[]then(0,true,cl)else(1,b,cl))
 else((nk A R cl w r).1,b,if(nk A R cl w r).1=0 then cl++[(nk A R cl w r).2]else cl):=rfl
abbrev ata:=Option ((List uF×qT×Bool×List (List Int)×(aD×Int)×Unit)⊕(Value×List (List Int)×Unit))
def VU(A:List aq)(R:List av)(m:Nat)(L:aD)(y:Int×Bool×List (List Int))(r:ata):Prop:=
 (y.1=0/\(∀x∈y.2.2,fe x)/\y.2.2.length<=m+1/\r=some (.inl (A.map bw,bA A R,y.2.1,y.2.2,(L,((L.2.1.length:Nat):Int)),())))\/(¬y.1=0/\∃F D,r=some (.inr (bV y.1 L.1 F,D,())))
theorem ZB{b:Bool}{cl:List (List Int)}{L:aD}{y:Int×List Int}{r:Ur}(h:kj L y r)(O:∀x∈cl,fe x)(hlen:cl.length<=100000):VU A R cl.length L (y.1,b,if y.1=0 then cl++[y.2]else cl) (r.bind λM=>
  match M with
  |.inl (join,F,_)=>
   J (cl.length+([join]:List (List Int)).length<=1000000000)<|
   some (.inl (A.map bw,bA A R,b,(cl++([join]:List (List Int))),F,()))
  |.inr (N,_)=>some (.inr (N,cl,()))):=by
 rcases h with⟨h1,h2,rfl⟩|⟨h1,D,rfl⟩
 ·refine .inl ⟨h1,λx U=>?_,?_,?_⟩
  ·grind
  ·grind
  ·simp[if_pos h1];simp (disch:=omega) only[K0]
 ·exact .inr ⟨h1,D,cl,rfl⟩
theorem asS(hA:bR A)(hR:bZ R)(hT:(aA A R).length<=400)(b:Bool)(cl:List (List Int))(N:∀x∈cl,fe x)(hlen:cl.length<=100000)(L:aD)(J:bD L):VU A R cl.length L (xb A R b cl L.2.1) (IZ (A.map bw) (bA A R) b cl (L,0)):=by
 have h0:0=((0:Nat):Int):=rfl;have hs:∀{Z:Bool} {ah c:List (List Int)} {M:Int},VU A R cl.length L (1,Z,ah) (some (.inr (bV 1 L.1 M,c,()))):=λ{Z ah c M}=>.inr ⟨(by simp),M,c,rfl⟩
 unfold IZ;rw[h0];by_cases h:0<L.2.1.length
 ·have F:=me L J 0 h;have hf:aZ 1 (L,((0+1:Nat):Int))=some (bV 1 L.1 (aG L (0+1)),()):=bP 1 L J (0+1) h;have ar:L.2.1=L.2.1[0]::L.2.1.drop (0+1):=by rw[<-av6 h];rfl
  have hk:Qu=some eO:=rfl;have D:=LW eO L.2.1[0] (by decide)
  have hr:=kD eO (λx=>decide (x=L.2.1[0]));have an:bC eO (λx=>decide (x=L.2.1[0]))=pt L.2.1[0]:=rfl;rw[an]at D hr
  have hj:pt L.2.1[0]= -1\/∃n:Nat,n<=9/\pt L.2.1[0]=n:=by
   rcases hr with⟨_,e⟩|⟨n,Y,_,e,_⟩
   ·exact .inl e
   ·exact .inr ⟨n,Nat.le_of_lt_succ Y,e⟩
  rw[ar,Ti];cases b with
  |false=>
   rw[if_pos rfl];by_cases c:L.2.1[0]=rM
   ·rcases UG L J (0+1) h with⟨q,O⟩|⟨q,M,O⟩
    ·have U:L.2.1.drop (0+1)=[]:=az3 (by omega)
     simp (disch:=omega) only[K0,F,O,hk,D];rw[if_pos ⟨c,U⟩];exact .inl ⟨rfl,N,Nat.le_succ _,by rw[<-q]⟩
    ·have U:¬L.2.1.drop (0+1)=[]:=by rw[aI7];omega
     simp (disch:=omega) only[K0,F,O,hk,D];rw[if_neg λq=>U q.2];exact hs
   ·simp (disch:=omega) only[K0,F,hf,hk,D];rw[if_neg λq=>c q.1];exact hs
  |true=>
   rw[if_neg (by simp)]
   unfold nk;by_cases c:L.2.1[0]=dL
   ·simp only[F,hk,D,at0,cond_true,dY c];rw[if_pos c];exact ZB (asT hA hR hT cl N (by omega) L (0+1) J h) N hlen
   ·rw[if_neg c];by_cases c2:(1:Int)<=pt L.2.1[0]
    ·simp only[F,hk,D,at0,cond_true,dN c,dY c2];rw[if_pos c2]
     obtain⟨n,Y,e⟩:∃n:Nat,n<=9/\pt L.2.1[0]=n:=by
      rcases hj with e|e
      ·omega
      ·exact e
     have:=as0 hA hR hT n (by omega) Y L (0+1) J h
     rw[e];exact ZB this N hlen
    ·simp only[F,hf,hk,D,at0,cond_false,dN c,dN c2];rw[if_neg c2];exact hs
 ·rw[az2.1 (show L.2.1.length=0 by omega)]
  simp only[Aq L 0 h];exact hs
def eP(A:List aq)(R:List av):List aD->Bool->List (List Int)->Int×Int×Bool×List (List Int)
 |[],b,cl=>(0,0,b,cl)
 |L::r,b,cl=>if(xb A R b cl L.2.1).1=0 then eP A R r (xb A R b cl L.2.1).2.1 (xb A R b cl L.2.1).2.2 else((xb A R b cl L.2.1).1,L.1,b,cl)
theorem adh(hA:bR A)(hR:bZ R)(hT:(aA A R).length<=400)(ls:List aD)(Y:∀L∈ls,bD L)(hn:ls.length<=50000):∀m i b (cl:List (List Int)),ls.length-i=m->i<=ls.length->(∀x∈cl,fe x)->cl.length<=i->
  ((eP A R (ls.drop i) b cl).1=0/\(eP A R (ls.drop i) b cl).2.2.2.length<=ls.length/\ae tl (ls,(ls.length:Int),(i:Int),A.map bw,bA A R,b,cl,())=some (.inl (A.map bw,bA A R,(eP A R (ls.drop i) b cl).2.2.1,(eP A R (ls.drop i) b cl).2.2.2,())))\/
  (¬(eP A R (ls.drop i) b cl).1=0/\∃F D,ae tl (ls,(ls.length:Int),(i:Int),A.map bw,bA A R,b,cl,())=some (.inr (bV (eP A R (ls.drop i) b cl).1 (eP A R (ls.drop i) b cl).2.1 F,D,()))):=by
 intro m
 induction m with
 |zero=>
  intro i b cl hm U J M;obtain rfl:i=ls.length:=by omega
  rw[ay8];exact .inl ⟨rfl,M,bf (by simp[tl,eP])⟩
 |succ m ih=>
  intro i b cl hm U J M;have h:i<ls.length:=by omega
  have O:=Y _ (at2 h);rw[av6 h];unfold eP;rcases asS hA hR hT b cl J (by omega) ls[i] O with⟨h1,h2,N,e⟩|⟨h1,F,D,e⟩
  ·rw[if_pos h1];generalize xb A R b cl (ls[i]).2.1=y at h1 h2 N e;have Z:=fC ls[i] (ls[i]).2.1.length;rw[bd (v':=(ls,(ls.length:Int),((i+1):Int),A.map bw,bA A R,y.2.1,y.2.2,())) (by simp only[tl,dY (show(i:Int)<ls.length by omega),cond_true,cond_false,aI h,e,Z,at0,Nat.lt_irrefl,decide_false,aS,aC (show i+1<=4611686018427387904 by omega)])]
   exact ih (i+1) y.2.1 y.2.2 (by omega) h h2 (by omega)
  ·rw[if_neg h1];exact .inr ⟨h1,F,D,bf (by simp (disch:=omega) only[K0,tl,e])⟩
def FT(A:List aq)(R:List av)(s:aa):Int×Int:=match fi (s.length+1) s 1 []with
 |.bad c l _=>((l:Int),(c:Int))
 |.ok ls=>if 400<A.length+(aA A R).length\/8000<(gH A R (aA A R)).length then(0,2)
  else if(eP A R (ls.map mn) false []).1=0 then(0,match(eP A R (ls.map mn) false []).2.2.2.getLast? with|some []=>0|_=>9)
  else((eP A R (ls.map mn) false []).2.1,(eP A R (ls.map mn) false []).1)
theorem asv(hA:bR A)(hR:bZ R)(s:aa)(hs:s.length<=20000):vX s (A.map bw) (R.map aX)=some ((FT A R s).2,(FT A R s).1,0):=by
 have h1:=W8 (s.length+1) (by omega) s.length s 1 [] (at9 _) hs (by simp) (by simp) (by simp)
 have h1:ae zb (s.length+1,1,s,0,0,0,[],())=some (ng (fi (s.length+1) s 1 [])):=h1;unfold vX J4 ED FT;rw[ai (show ab .i64 (s.length+1) from ba (by omega)),h1]
 cases h:fi (s.length+1) s 1 []with
 |bad c l F=>have hc:=Q3 _ _ _ _ _ _ _ _ (at9 _) h;simp (disch:=omega) only[K0,ng]
 |ok Y=>
  obtain⟨h1,h2⟩:=QQ (s.length+1) s.length s 1 [] Y (at9 _) (by simp) (by simp) (λd O=>by cases O) h
  obtain⟨ls,U⟩:∃ls,ls=Y.map mn:=⟨_,rfl⟩;have ah:∀L∈ls,bD L:=λL hL=>by rw[U]at hL;obtain⟨d,O,rfl⟩:=ax1.1 hL;exact(h1 d O).1
  have hn:ls.length<=20001:=by rw[U,au1];omega
  simp only[ng,<-U,at0,aC6,av2];rw[asb A hA R hR];by_cases N:400<A.length+(aA A R).length
  ·rw[if_pos N,if_pos (.inl N)];rfl
  ·rw[if_neg N];have hT:(aA A R).length<=400:=by omega
   obtain⟨M,g1,g2,g3⟩:=aaW A hA R hR hT;have aE:=g2.length_eq;rw[g1,at0];by_cases h8:8000<M.length
   ·rw[if_pos (.inr (by omega)),dY (show(8000:Int)<M.length by omega)];rfl
   ·rw[if_neg (by omega),dN (show¬8000<(M.length:Int) by omega)]
    simp only[cond_false,at0,decide_true];unfold PN;rcases adh hA hR hT ls ah (by omega) ls.length 0 false [] rfl (au2 _) (λx hx=>(az1 hx).elim) (au2 _)with⟨D,hlen,e⟩|⟨D,F,az,e⟩
    ·rw[ax7]at D hlen e;have e:ae tl (ls,ls.length,0,A.map bw,bA A R,false,[],())=_:=e;rw[e,if_pos D];generalize(eP A R ls false []).2.2.2=cl at hlen⊢;simp only[at0,decide_true,aC6,av2,cond_false];by_cases c0:(cl.length:Int)=0
     ·rw[dY c0,az2.1 (show cl.length=0 by omega)];rfl
     ·have e2:cl.length-1=((cl.length-1:Nat):Int):=by omega
      have an:cl.length-1<cl.length:=by omega
      have c1:∀{R:Type} (q:Option R),J (ab .i64 ((cl.length-1):Int)) q=q:=λq=>ai (ba (by omega))
      have c2:∀{R:Type} (q:Option R),J (0<=((cl.length-1):Int)/\((cl.length-1):Int)<cl.length) q=q:=λq=>ai ⟨by omega,by omega⟩
      have g1:=au4 an;simp (disch:=omega) only[K0,e2,c1,c2,g1];rw[List.getLast?_eq_getElem?,g1];cases cl[cl.length-1]with
      |nil=>rfl
      |cons x r=>rw[dY (show(0:Int)<((x::r).length) by rw[av1];omega)];rfl
    ·rw[ax7]at D e;have e:ae tl (ls,ls.length,0,A.map bw,bA A R,false,[],())=_:=e;have ar:∀Z l:Int,pe (bV Z l F)=some (Z,l,F):=λ_ _=>rfl;rw[e,if_neg D];simp[at0,ar,dN D,Bool.false_and,aw3,cond_true]
variable {A:List aq} {R:List av}
theorem aco{α:Type}[DecidableEq α]:∀{a b:List α},a.length=b.length->(a.zip b).all (λz=>decide (z.1=z.2))=decide (a=b)
 |[],[],_=>rfl
 |[],_::_,h=>nomatch h
 |_::_,[],h=>nomatch h
 |x::a,y::b,h=>by
  rw[List.zip_cons_cons,List.all_cons,aco (by grind)]
  grind
theorem Fi(a b:ak)(D:a.length<=1000000):wm a b=some (decide (a=b)):=by
 unfold wm;by_cases h:a.length=b.length
 ·simp (disch:=omega) only[K0];have F:(a.zip b).length=a.length:=by grind
  have main:=lz (f:=D6) (a.zip b) (λz=>decide (z.1=z.2)) (λk=>(a,b,k,())) (.inl ()) (.inr ()) (λk hk hp=>by
   rw[List.getElem_zip]at hp;have hp:=of_decide_eq_true hp;simp[]at hp;simp only[D6,dY (show(k:Int)<a.length by omega),cond_true,aI (show k<a.length by omega),aI (show k<b.length by omega),hp,decide_true,av2,cond_false,aS,aC (show k+1<=4611686018427387904 by omega)]) (λk hk hp=>by
   rw[List.getElem_zip]at hp;have hp:=of_decide_eq_false hp;simp (disch:=omega) only[K0,D6]) (by
   simp (disch:=omega) only[K0,D6])
  rw[aco h]at main;grind
 ·rw[dN (show¬a.length=(b.length:Int) by omega),dN (λe=>h (by rw[e]))];rfl
theorem akJ{l m:List Int}(h:∀z,z∈l<->z∈m):oe l=oe m:=by grind[oe]
theorem aoZ(c:List Int)(D:c.length<=1000000)(hc:∀x∈c,-1000<=x/\x<=1000):LF c=some (oe c):=by
 unfold LF oe
 have main:=lz (f:=Em) c (λx=> !c.any λy=>decide (y=0-x)) (λk=>(c,k,())) (.inl ()) (.inr ()) (λk hk hp=>by
  have F:=hc _ (at2 hk);simp (disch:=omega) only[K0,Em,FH c D,(by grind:(c.any λy=>decide (y=0-c[k]))=false)]) (λk hk hp=>by
  have F:=hc _ (at2 hk);have hp:(c.any λy=>decide (y=0-c[k]))=true:=by grind
  simp (disch:=omega) only[K0,Em,FH c D,hp]) (by
  simp[Em])
 grind
theorem Sx(p:Int->Bool):∀(l s:List Int),l.foldl (λs x=>if p x=true then s else s++[x]) s=s++l.filter λx=> !p x
 |[],s=>by simp
 |x::l,s=>by rw[List.foldl_cons,Sx p l];grind
theorem XX(a b:List Int)(F:fe a)(L:fe b)(v:Int)(hv:v<=1000):DW a b v=some ((fW a b v).getD [],(fW a b v).isSome):=by
 have h1:=F.1;have h2:=L.1;have no:∀{q:Option (List Int×Bool)},fW a b v=none->q=some ([],false)->q=some ((fW a b v).getD [],(fW a b v).isSome):=λ{q} h e=>by rw[h];grind
 unfold DW;by_cases c1:v<1
 ·rw[dY c1];exact no (if_pos (.inl c1)) rfl
 ·simp (disch:=omega) only[K0,FH a (by omega)]
  cases Y:a.any (λx=>decide (x=v))with
  |false=>exact no (if_pos (.inr (.inl Y))) rfl
  |true=>
   have U:∀{R:Type} (q:Option R),J (ab .i64 (0-v)) q=q:=λq=>ai (ba (by omega))
   simp only[U,FH b (by omega)]
   cases Z:b.any (λx=>decide (x=0-v))with
   |false=>exact no (if_pos (.inr (.inr (.inl Z)))) rfl
   |true=>
    simp only[K0];have f1:=aG3 (λx=> !decide (x=v)) a;have f2:=aG3 (λx=> !decide (x=0-v)) b;have M:∀x∈(a.filter λx=> !decide (x=v))++(b.filter λx=> !decide (x=0-v)),-1000<=x/\x<=1000:=λx D=>(av3.1 D).elim (λh=>F.2 x (aC5.1 h).1) (λh=>L.2 x (aC5.1 h).1)
    have N:=YK (f:=Dy) (v0:=(a,b,v,0,[],())) a (λs x=>if decide (x=v)=true then s else s++[x]) (λk s=>(a,b,v,k,s,())) (λs=>(b,v,s,())) (λk s=>s.length<=k) [] rfl (at9 _) (λk hk s hs=>by
     have c2:∀{R:Type} x (q:Option R),J (s.length+[x].length<=1000000000) q=q:=λx q=>mZ (by omega)
     by_cases e:a[k]=v
     ·refine⟨?_,by rw[if_pos (dY e _)];omega⟩
      rw[if_pos (dY e _)];simp (disch:=omega) only[K0,Dy]
     ·refine⟨?_,by rw[if_neg (by grind),au5];exact Nat.succ_le_succ hs⟩
      rw[if_neg (by grind)]
      simp (disch:=omega) only[K0,Dy]) (λs hs=>by
     simp[Dy,decide_false])
    rw[Sx,aB4]at N
    have O:=YK (f:=Dx) (v0:=(b,v,0,(a.filter λx=> !decide (x=v)),())) b (λs x=>if decide (x=0-v)=true then s else s++[x]) (λk s=>(b,v,k,s,())) (λs=>(s,())) (λk s=>s.length<=a.length+k) (a.filter λx=> !decide (x=v)) rfl (by omega) (λk hk s hs=>by
     have c2:∀{R:Type} x (q:Option R),J (s.length+[x].length<=1000000000) q=q:=λx q=>mZ (by omega)
     by_cases e:b[k]=0-v
     ·refine⟨?_,by rw[if_pos (dY e _)];omega⟩
      rw[if_pos (dY e _)];simp (disch:=omega) only[K0,Dx]
     ·refine⟨?_,by rw[if_neg (by grind),au5];exact Nat.succ_le_succ hs⟩
      rw[if_neg (by grind)]
      simp (disch:=omega) only[K0,Dx]) (λs hs=>by
     simp[Dx,decide_false])
    rw[Sx]at O;have hlen:((a.filter λx=> !decide (x=v))++(b.filter λx=> !decide (x=0-v))).length<=5000:=by rw[au5];omega
    rw[N];simp only[O,at0,aoZ _ (aw8 hlen (by simp)) M]
    have ht:oe ((a.filter λx=> !decide (x=v))++(b.filter λx=> !decide (x=0-v)))=oe (bz ((a.filter λx=> !decide (x=v))++(b.filter λx=> !decide (x=0-v)))):=akJ λz=>((qm _).2 z).symm;rw[ht];cases h5:oe (bz ((a.filter λx=> !decide (x=v))++(b.filter λx=> !decide (x=0-v))))with
    |true=>exact no (if_pos (.inr (.inr (.inr h5)))) rfl
    |false=>
     have e:fW a b v=some (bz ((a.filter λx=> !decide (x=v))++(b.filter λx=> !decide (x=0-v)))):=if_neg (by grind)
     rw[e];simp only[norm_eq _ (λx D=>by have:=M x D;omega:eE _) (aw8 hlen (by simp))];rfl
theorem apS(a b:List Int)(D:fe a)(F:fe b)(v:Int)(J:v<=1000):LD a b v=some (match(fW a b v).or (fW b a v)with|some x=>(x,true)|none=>([],false)):=by
 unfold LD;rw[XX a b D F v J];cases fW a b v with
 |some x=>rfl
 |none=>simp only[XX b a F D v J];grind
def pX(k:Int)(w:aa):Bool:=if k=20 then cC w else if k=1 then bQ w else if k=2 then dt w else cr w
def dF:List Int->ak->Bool
 |[],[]=>true
 |k::f,w::r=>pX k w&&dF f r
 |_,_=>false
theorem abS:∀{f:List Int} {w:ak},dF f w=(decide (w.length=f.length)&&(w.zip f).all λz=>pX z.2 z.1)
 |[],[]=>rfl
 |[],_::_=>rfl
 |_::_,[]=>rfl
 |k::f,w::r=>by rw[dF,abS];by_cases e:r.length=f.length<;>simp [Bool.and_left_comm]
theorem RP(D:aa)(ws:ak)(f:List Int)(hf:f.length<=20)(hk:∀k∈f,k=20\/k=1\/k=2\/k=3)(hw:∀w∈ws,w.length<=80):zp (D::ws) f=some (dF f ws):=by
 rw[abS];unfold zp;rw[ai (show ab .i64 (f.length+1) from ba (by omega))]
 by_cases h:ws.length=f.length
 ·rw[dY h];have N:(ws.zip f).length=f.length:=by grind
  have is:∀w∈ws,∀k∈f,¬k=20->iL w k=some (pX k w):=λw h1 k h2 L=>by
   have:=hw w h1;rcases hk k h2 with rfl|rfl|rfl|rfl
   ·exact absurd rfl L
   ·exact SQ w (by omega)
   ·exact Tw w (by omega)
   ·exact YX w (by omega)
  have step:∀k (hk:k<(ws.zip f).length),y0 ((D::ws),f,k,())=if pX ((ws.zip f)[k]).2 ((ws.zip f)[k]).1=true then some (.inl ((D::ws),f,((k+1:Nat):Int),()))else some (.inr (.inr ())):=λk hk=>by
   have c1:∀{R:Type} (q:Option R),J (ab .i64 (k+1)) q=q:=λq=>aC (n:=k+1) (by omega)
   have g1:∀{R:Type} (q:aa->Option R),(ag (D::ws) (k+1)).bind q=q (ws[k]'(by omega)):=λq=>by rw[show(k+1)=((k+1:Nat):Int) from rfl,aI (by grind)];rfl
   have M:=is (ws[k]'(by omega)) (at2 _) (f[k]'(by omega)) (at2 _)
   rw[List.getElem_zip];simp only[y0,dY (show(k:Int)<f.length by omega),c1,g1,vU,aI (show k<f.length by omega)]
   by_cases e:f[k]'(by omega)=20
   ·have F:pX (f[k]'(by omega)) (ws[k]'(by omega))=cC (ws[k]'(by omega)):=by unfold pX;rw[if_pos e]
    rw[F,dY e];cases cC (ws[k]'(by omega))with
    |true=>simp (disch:=omega) only[K0];rfl
    |false=>rfl
   ·rw[dN e,M e];cases pX (f[k]'(by omega)) (ws[k]'(by omega))<;>rfl
  have main:=lz (f:=y0) (ws.zip f) (λz=>pX z.2 z.1) (λk=>((D::ws),f,k,())) (.inl ()) (.inr ()) (λk hk hp=>by
   rw[step k hk,if_pos hp]) (λk hk hp=>by
   rw[step k hk,if_neg (by grind)]) (by
   simp[y0,N,cond_false])
  simp (disch:=omega) only[K0];rw[show ae y0 ((D::ws),f,0,())=_ from main]
  cases(ws.zip f).all λz=>pX z.2 z.1<;>rfl
 ·rw[dN (show¬(((D::ws).length):Int)=f.length+1 by rw[av1];omega),dN h];rfl
variable {A:List aq} {R:List av}
def xX(D:aa):ak->Bool
 |a::b::c::r=>decide (D=dL)&&(cC a&&cC b)&&(if c=ph then dF [2,3,1] r else decide (c=gy)&&dF [2,1] r)
 |_=>false
theorem Uh(D a b c:aa)(r:ak):xX D (a::b::c::r)=(decide (D=dL)&&(cC a&&cC b)&&(if c=ph then dF [2,3,1] r else decide (c=gy)&&dF [2,1] r)):=rfl
theorem RL(D:aa)(ws:ak)(F:ws.length<=19)(hw:∀w∈ws,w.length<=80):KM (D::ws)=some (xX D ws):=by
 unfold KM
 match ws,F,hw with
 |[],_,_=>rfl
 |[_],_,_=>rfl
 |[_,_],_,_=>rfl
 |a::b::c::r,F,hw=>
  have F:=F;have g:∀{R:Type} k (h:k<(D::a::b::c::r).length) (q:aa->Option R),(ag (D::a::b::c::r) k).bind q=q ((D::a::b::c::r)[k]):=λk h q=>aI h q;have hlen:(D::a::b::c::r).length=r.length+4:=rfl;have g0:∀{R:Type} (q:aa->Option R),(ag (D::a::b::c::r) 0).bind q=q D:=λq=>g 0 (by simp) q
  have g1:∀{R:Type} (q:aa->Option R),(ag (D::a::b::c::r) 1).bind q=q a:=λq=>g 1 (by simp) q
  have g2:∀{R:Type} (q:aa->Option R),(ag (D::a::b::c::r) 2).bind q=q b:=λq=>g 2 (by simp) q
  have g3:∀{R:Type} (q:aa->Option R),(ag (D::a::b::c::r) 3).bind q=q c:=λq=>g 3 (by simp) q
  have N:((D::a::b::c::r).take ((D::a::b::c::r).length:Int).toNat).drop (3:Int).toNat=c::r:=by rw[av0,List.take_length];rfl
  have J:=λw h=>hw w (ax5 _ (ax5 _ (ax5 _ h)));have f1:=RP c r [2,3,1] (by simp) (by simp) J
  have f2:=RP c r [2,1] (by simp) (by simp) J
  rw[dN (show¬(((D::a::b::c::r).length):Int)<4 by rw[hlen];omega),g0,Uh]
  by_cases L:D=dL
  ·rw[dY L,cond_false,g1,vU,at0,g2,vU,at0];cases cC a with
   |false=>rfl
   |true=>
    cases cC b with
    |false=>rfl
    |true=>
     simp only[if_true,cond_false,g3,N,f1,f2,at0];by_cases O:c=ph
     ·simp (disch:=omega) only[K0]
     ·simp (disch:=omega) only[K0];by_cases M:c=gy
      ·grind
      ·rw[dN M];rfl
  ·grind
theorem gz{ok:aa->Bool}{w:aa}{r:ak}(h:ok w=true):tk ok (w::r)=some (w,r):=if_pos h
theorem qw{ok:aa->Bool}{w:aa}{r:ak}(h:ok w=false):tk ok (w::r)=none:=if_neg (by grind)
theorem aof(A:List aq)(T:aV)(ws:ak):(xX dL ws=false/\iP A T ws=none)\/
  ∃a b c r,ws=a::b::c::r/\xX dL ws=true/\cC a=true/\cC b=true/\((c=ph/\∃n v s,r=[n,v,s]/\iP A T ws=some (((aW a:Nat):Int),((aW b:Nat):Int),gA A n v s+1))\/(¬c=ph/\c=gy/\∃n f,r=[n,f]/\iP A T ws=some (((aW a:Nat):Int),((aW b:Nat):Int),db A.length T (n,f)))):=by
 have three:∀r,dF [2,3,1] r=true->∃n v s,r=[n,v,s]/\dt n=true/\cr v=true/\bQ s=true:=λr h=>by
  match r,h with
  |[n,v,s],h=>simp only[dF,au0]at h;exact⟨n,v,s,rfl,h.1,h.2.1,h.2.2.1⟩
  |[],h=>cases h
  |[_],h=>simp [dF]at h
  |[_,_],h=>simp [dF]at h
  |_::_::_::_::_,h=>simp [dF]at h
 have two:∀r,dF [2,1] r=true->∃n f,r=[n,f]/\dt n=true/\bQ f=true:=λr h=>by
  match r,h with
  |[n,f],h=>simp only[dF,au0]at h;exact⟨n,f,rfl,h.1,h.2.1⟩
  |[],h=>cases h
  |[_],h=>simp [dF]at h
  |_::_::_::_,h=>simp [dF]at h
 match ws with
 |[]=>exact .inl ⟨rfl,rfl⟩
 |[a]=>
  refine .inl ⟨rfl,?_⟩;unfold iP;cases h:cC a with
  |false=>rw[qw h];rfl
  |true=>rw[gz h];rfl
 |[a,b]=>
  refine .inl ⟨rfl,?_⟩;unfold iP;cases h:cC a with
  |false=>rw[qw h];rfl
  |true=>
   rw[gz h,at0];cases h2:cC b with
   |false=>rw[qw h2];rfl
   |true=>rw[gz h2];rfl
 |a::b::c::r=>
  have M:xX dL (a::b::c::r)=((cC a&&cC b)&&(if c=ph then dF [2,3,1] r else decide (c=gy)&&dF [2,1] r)):=by rfl
  unfold iP;cases h:cC a with
  |false=>exact .inl ⟨by rw[M,h];rfl,by rw[qw h];rfl⟩
  |true=>
   rw[gz h,at0];cases h2:cC b with
   |false=>exact .inl ⟨by rw[M,h,h2];rfl,by rw[qw h2];rfl⟩
   |true=>
    rw[gz h2,at0,gz (ok:=λ_=>true) rfl,at0,M,h,h2,Bool.true_and];simp only[];by_cases J:c=ph
    ·rw[if_pos J,if_pos J];cases hf:dF [2,3,1] r with
     |true=>obtain⟨n,v,s,rfl,D,F,L⟩:=three r hf;refine .inr ⟨a,b,c,_,rfl,rfl,h,h2,.inl ⟨J,n,v,s,rfl,?_⟩⟩;rw[gz D,at0];unfold kp;rw[gz F,at0,gz L,at0,at0,if_pos rfl]
     |false=>
      refine .inl ⟨rfl,?_⟩
      match r,hf with
      |[],_=>rfl
      |n::r,hf=>
       cases D:dt n with
       |false=>rw[qw D];rfl
       |true=>
        rw[gz D,at0];unfold kp
        match r,hf with
        |[],_=>rfl
        |v::r,hf=>
         cases F:cr v with
         |false=>simp only[qw F];rfl
         |true=>
          simp only[gz F,at0]
          match r,hf with
          |[],_=>rfl
          |s::r,hf=>
           cases L:bQ s with
           |false=>rw[qw L];rfl
           |true=>
            simp only[gz L];have:¬r=[]:=λe=>by subst e;have:dF [2,3,1] [n,v,s]=(dt n&&(cr v&&(bQ s&&true))):=rfl;rw[this,D,F,L]at hf;cases hf
            exact if_neg this
    ·rw[if_neg J,if_neg J];by_cases N:c=gy
     ·simp (disch:=omega) only[K0];cases hf:dF [2,1] r with
      |true=>obtain⟨n,f,rfl,D,F⟩:=two r hf;refine .inr ⟨a,b,c,_,rfl,rfl,h,h2,.inr ⟨J,N,n,f,rfl,?_⟩⟩;rw[gz D,at0,gz F,at0,if_pos rfl]
      |false=>
       refine .inl ⟨rfl,?_⟩
       match r,hf with
       |[],_=>rfl
       |n::r,hf=>
        cases D:dt n with
        |false=>rw[qw D];rfl
        |true=>
         rw[gz D,at0]
         match r,hf with
         |[],_=>rfl
         |f::r,hf=>
          cases F:bQ f with
          |false=>simp only[qw F];rfl
          |true=>
           simp only[gz F];have:¬r=[]:=λe=>by subst e;have:dF [2,1] [n,f]=(dt n&&(bQ f&&true)):=rfl;rw[this,D,F]at hf;cases hf
           exact if_neg this
     ·rw[dN N,if_neg N];exact .inl ⟨rfl,rfl⟩
theorem o9(R:List av)(T:aV)(i:Nat)(D:i<A.length):wD (A,R,T) (i:Int)=some [(A[i]).1.1,(A[i]).1.2.1,(A[i]).2.1]:=by simp (disch:=omega) only[K0,wD]
theorem ate(hA:bR A)(hR:bZ R)(hT:(aA A R).length<=400)(facts:List cu)(cl:List (List Int))(ah:∀x∈cl,fe x)(hlen:cl.length<=1000000)(ws:ak)(hl:ws.length<=19)(hw:∀w∈ws,w.length<=80):
  r7 (jF A R) facts (dL::ws) cl=some ((qM A R cl ws).2,(qM A R cl ws).1):=by
 have hs:=hA.many;unfold r7 qM;rw[RL dL ws hl hw,at0];rcases aof A (aA A R) ws with⟨L,D⟩|⟨a,b,c,r,rfl,L,ha,hb,D⟩
 ·have f0:rN dL=some []:=rfl;rw[L,D,cond_false,Uk (by simp)]
  show(rN dL).bind _=_;rw[f0];rfl
 ·have az:(dL::a::b::c::r).length=r.length+4:=rfl;have g:∀{R:Type} k (h:k<(dL::a::b::c::r).length) (q:aa->Option R),(ag (dL::a::b::c::r) k).bind q=q ((dL::a::b::c::r)[k]):=λk h q=>aI h q;have g1:∀{R:Type} (q:aa->Option R),(ag (dL::a::b::c::r) 1).bind q=q a:=λq=>g 1 (by simp) q
  have g2:∀{R:Type} (q:aa->Option R),(ag (dL::a::b::c::r) 2).bind q=q b:=λq=>g 2 (by simp) q
  have g3:∀{R:Type} (q:aa->Option R),(ag (dL::a::b::c::r) 3).bind q=q c:=λq=>g 3 (by simp) q
  rw[L,cond_true,g1,vU,ha,if_pos rfl,at0,g2,vU,hb,if_pos rfl,at0]
  obtain⟨v,hv,F,ar⟩:∃v:Int,v<=1000/\iP A (aA A R) (a::b::c::r)=some (((aW a):Int),((aW b):Int),v)/\J8 (jF A R) (dL::a::b::c::r)=some v:=by
   unfold J8;rcases D with⟨D,n,w,s,rfl,F⟩|⟨M,D,n,f,rfl,F⟩
   ·refine⟨_,?_,F,?_⟩
    ·unfold gA;rcases kD A (λy=>decide (iB y=(n,w,s)))with⟨_,q⟩|⟨j,F,_,q,_⟩<;>omega
    ·have an:¬c=gy:=by rw[D];decide
     have ck:∀{R:Type} (q:Option R),J (0<=(4:Int)/\4<=([dL,a,b,c,n,w,s].length:Int)/\([dL,a,b,c,n,w,s].length:Int)<=([dL,a,b,c,n,w,s].length:Int)) q=q:=λq=>ai (show(0:Int)<=4/\4<=7/\7<=7 by decide)
     have hd:([dL,a,b,c,n,w,s].take ([dL,a,b,c,n,w,s].length:Int).toNat).drop (4:Int).toNat=[n,w,s]:=rfl
     have same:∀y:aq,decide ([n,w,s]=[y.1.1,y.1.2.1,y.2.1])=decide (iB y=(n,w,s)):=λy=>by
      rw[aB9,decide_eq_true_eq,decide_eq_true_eq];unfold iB;constructor
      ·intro e;injection e with L e;injection e with D e;injection e with M e;rw[L,D,M]
      ·intro e;injection e with L e;injection e with D M;rw[L,D,M]
     have main:=jc (f:=yT) A (λy=>decide (iB y=(n,w,s))) (λk=>([dL,a,b,c,n,w,s],k,A,R,aA A R,())) (λk=>au8 (k+1,())) (au6 ()) (λk h hp=>by
      have Z:=Fi [n,w,s] [(A[k]).1.1,(A[k]).1.2.1,(A[k]).2.1] (by simp)
      simp only[yT,dY (show(k:Int)<A.length by omega),cond_true,ck,hd,o9 R (aA A R) k h,at0,Z,same,hp,cond_false,aS,aC (show k+1<=4611686018427387904 by omega)]) (λk h hp=>by
      have Z:=Fi [n,w,s] [(A[k]).1.1,(A[k]).1.2.1,(A[k]).2.1] (by simp)
      simp only[yT,dY (show(k:Int)<A.length by omega),cond_true,ck,hd,o9 R (aA A R) k h,at0,Z,same,hp,aS,aC (show k+1<=4611686018427387904 by omega)]) (by
      simp[yT,av8,decide_false,cond_false])
     rw[g3,dN an,cond_false];rw[show ae yT ([dL,a,b,c,n,w,s],0,(jF A R).1,(jF A R).2.1,(jF A R).2.2,())=_ from main,at0]
     unfold gA bC;cases A.findIdx? (λy=>decide (iB y=(n,w,s)))<;>rfl
   ·have hr:=tJ A.length (aA A R) (n,f);refine⟨_,by omega,F,?_⟩
    have g4:∀{R:Type} (q:aa->Option R),(ag [dL,a,b,c,n,f] 4).bind q=q n:=λq=>g 4 (by simp) q
    have g5:∀{R:Type} (q:aa->Option R),(ag [dL,a,b,c,n,f] 5).bind q=q f:=λq=>g 5 (by simp) q
    simp (disch:=omega) only[K0,g3,g4,g5,show oW (jF A R) (n,f)=_ from abp A R (aA A R) hs (by omega) (n,f)]
  rw[ar,at0,F];simp only[];generalize((aW a):Int)=N;generalize((aW b):Int)=O;unfold F6;by_cases c1:N<1
  ·rw[dY c1,if_pos (.inl c1)];rfl
  ·rw[dN c1,cond_false];by_cases c2:O<1
   ·rw[dY c2,if_pos (.inr (.inl c2))];rfl
   ·rw[dN c2,cond_false];by_cases U:cl.length<N
    ·rw[dY U,if_pos (.inr (.inr (.inl U)))];rfl
    ·rw[dN U,cond_false];by_cases Y:cl.length<O
     ·rw[dY Y,if_pos (.inr (.inr (.inr (.inl Y))))];rfl
     ·rw[dN Y,cond_false];by_cases c5:v=0
      ·rw[dY c5,if_pos (.inr (.inr (.inr (.inr c5))))];rfl
      ·simp (disch:=omega) only[K0];obtain⟨i,rfl⟩:∃i:Nat,N=(i:Int)+1:=⟨(N-1).toNat,by omega⟩
       obtain⟨j,rfl⟩:∃j:Nat,O=(j:Int)+1:=⟨(O-1).toNat,by omega⟩
       have hi:i<cl.length:=by omega
       have F:j<cl.length:=by omega
       have ei:(i:Int)+1-1=i:=by omega
       have ej:(j:Int)+1-1=j:=by omega
       have k1:∀{R:Type} (q:Option R),J (ab .i64 i) q=q:=λq=>ai (ba (by omega))
       have k2:∀{R:Type} (q:Option R),J (ab .i64 j) q=q:=λq=>ai (ba (by omega))
       have k3:∀{R:Type} (q:Option R),J (0<=i/\i<cl.length) q=q:=λq=>ai ⟨by omega,by omega⟩
       have k4:∀{R:Type} (q:Option R),J (0<=j/\j<cl.length) q=q:=λq=>ai ⟨by omega,by omega⟩
       have q1:cl[i]? =some cl[i]:=au4 hi;have q2:cl[j]? =some cl[j]:=au4 F;simp[ei,ej,k1,k2,k3,k4,av0,q1,q2,at0,Option.getD_some,apS cl[i] cl[j] (ah _ (at2 hi)) (ah _ (at2 F)) v hv];cases(fW cl[i] cl[j] v).or (fW cl[j] cl[i] v)<;>rfl
variable {A:List aq} {R:List av} {T:aV}
def jP(c:UInt8):List Int:=if c=110 then[20]else if c=99 then[2,3,1]else if c=118 then[3,1]else[1]
theorem F1{ok:aa->Bool}{ws r:ak}{w:aa}(h:tk ok ws=some (w,r)):ws=w::r/\ok w=true:=by
 cases ws with
 |nil=>cases h
 |cons x q=>
  rw[show tk ok (x::q)=if ok x=true then some (x,q)else none from rfl]at h
  grind
theorem acL{n:aa}{ws r:ak}{i:Int}(h:kp A n ws=some (i,r)):∃v s,ws=v::s::r/\cr v=true/\bQ s=true/\i=gA A n v s:=by unfold kp at h;obtain⟨⟨v,q⟩,h1,h⟩:=ay0.1 h;obtain⟨⟨s,N⟩,h2,h⟩:=ay0.1 h;injection h with h;injection h with L M;subst L;subst M;obtain⟨rfl,F⟩:=F1 h1;obtain⟨D,J⟩:=F1 h2;have D:=D;subst D;exact⟨v,s,rfl,F,J,rfl⟩
theorem pD{F n:aa}{ws r:ak}{l:List Int}(h:dH A T (110::F) n ws=some (l,r)):∃d q D,ws=d::q/\cC d=true/\dH A T F n q=some (D,r)/\l=((aW d:Nat):Int)::D:=by rw[dH]at h;obtain⟨⟨d,q⟩,h1,h⟩:=ay0.1 h;obtain⟨⟨D,M⟩,h2,h⟩:=Option.map_eq_some_iff.1 h;injection h with J L;subst J;subst L;obtain⟨rfl,e⟩:=F1 h1;exact⟨d,q,D,rfl,e,h2,rfl⟩
theorem rd_c{F n:aa}{ws r:ak}{l:List Int}(h:dH A T (99::F) n ws=some (l,r)):∃m v s q D,ws=m::v::s::q/\cr v=true/\dH A T F m q=some (D,r)/\l=gA A m v s::D/\dt m=true/\bQ s=true:=by obtain⟨⟨m,q⟩,h1,h⟩:=ay0.1 h;obtain⟨⟨i,Y⟩,h2,h⟩:=ay0.1 h;obtain⟨⟨D,Z⟩,U,h⟩:=Option.map_eq_some_iff.1 h;injection h with J L;subst J;subst L;obtain⟨rfl,e⟩:=F1 h1;obtain⟨v,s,M,N,O,rfl⟩:=acL h2;grind
theorem ady{F n:aa}{ws r:ak}{l:List Int}(h:dH A T (118::F) n ws=some (l,r)):∃v s q D,ws=v::s::q/\cr v=true/\dH A T F n q=some (D,r)/\l=gA A n v s::D/\bQ s=true:=by obtain⟨⟨i,U⟩,h2,h⟩:=ay0.1 h;obtain⟨⟨D,Y⟩,O,h⟩:=Option.map_eq_some_iff.1 h;injection h with J L;subst J;subst L;obtain⟨v,s,rfl,M,N,rfl⟩:=acL h2;grind
theorem Np{F n:aa}{ws r:ak}{l:List Int}(h:dH A T (102::F) n ws=some (l,r)):∃f q D,ws=f::q/\dH A T F n q=some (D,r)/\l=(db A.length T (n,f)-(A.length:Int)-1)::D/\bQ f=true:=by obtain⟨⟨f,q⟩,h1,h⟩:=ay0.1 h;obtain⟨⟨D,M⟩,h2,h⟩:=Option.map_eq_some_iff.1 h;injection h with J L;subst J;subst L;obtain⟨rfl,e⟩:=F1 h1;grind
theorem Tb:∀(D:aa) (hf:∀b∈D,uz b) (n:aa) (ws:ak),(∃l,dH A T D n ws=some (l,[]))<->dF (D.flatMap jP) ws=true
 |[],_,n,ws=>by cases ws<;>simp [dH,dF]
 |c::D,hf,n,ws=>by
  have J:=Tb D λb O=>hf b (ax5 _ O);rw[List.flatMap_cons];rcases hf c aw4 with rfl|rfl|rfl|rfl
  ·rw[show jP 110=[20] from rfl]
   constructor
   ·rintro⟨l,h⟩;obtain⟨d,q,F,rfl,e,h1,_⟩:=pD h;show(pX 20 d&&dF (D.flatMap jP) q)=true;rw[show pX 20 d=cC d from rfl,e,(J n q).1 ⟨F,h1⟩];rfl
   ·intro h;cases ws with
    |nil=>cases h
    |cons d q=>have h:(cC d&&dF (D.flatMap jP) q)=true:=h;rw[au0]at h;obtain⟨F,h1⟩:=(J n q).2 h.2;exact⟨_,by simp only[K0,dH,gz h.1,h1];rfl⟩
  ·rw[show jP 99=[2,3,1] from rfl]
   constructor
   ·rintro⟨l,h⟩;obtain⟨m,v,s,q,F,rfl,L,h1,_,N,M⟩:=rd_c h;show(dt m&&(cr v&&(bQ s&&dF (D.flatMap jP) q)))=true;rw[L,N,M,(J m q).1 ⟨F,h1⟩];rfl
   ·intro h
    match ws,h with
    |m::v::s::q,h=>have h:(dt m&&(cr v&&(bQ s&&dF (D.flatMap jP) q)))=true:=h;simp[au0]at h;obtain⟨F,h1⟩:=(J m q).2 h.2.2.2;refine⟨gA A m v s::F,?_⟩;simp only[dH,gz h.1];unfold kp;simp only[K0,gz h.2.1,gz h.2.2.1,h1];rfl
    |[],h=>cases h
    |[_],h=>grind[dF]
    |[_,_],h=>simp [dF]at h
  ·rw[show jP 118=[3,1] from rfl]
   constructor
   ·rintro⟨l,h⟩;obtain⟨v,s,q,F,rfl,L,h1,_,M⟩:=ady h;show(cr v&&(bQ s&&dF (D.flatMap jP) q))=true;rw[L,M,(J n q).1 ⟨F,h1⟩];rfl
   ·intro h
    match ws,h with
    |v::s::q,h=>have h:(cr v&&(bQ s&&dF (D.flatMap jP) q))=true:=h;simp[au0]at h;obtain⟨F,h1⟩:=(J n q).2 h.2.2;refine⟨gA A n v s::F,?_⟩;simp only[dH];unfold kp;simp only[K0,gz h.1,gz h.2.1,h1];rfl
    |[],h=>cases h
    |[_],h=>simp [dF]at h
  ·rw[show jP 102=[1] from rfl]
   constructor
   ·rintro⟨l,h⟩;obtain⟨f,q,F,rfl,h1,_,e⟩:=Np h;show(bQ f&&dF (D.flatMap jP) q)=true;rw[e,(J n q).1 ⟨F,h1⟩];rfl
   ·intro h;cases ws with
    |nil=>cases h
    |cons f q=>have h:(bQ f&&dF (D.flatMap jP) q)=true:=h;rw[au0]at h;obtain⟨F,h1⟩:=(J n q).2 h.2;exact⟨_,by rw[dH,if_neg (by simp),gz h.1,at0,h1];rfl⟩
def Wm(A:List aq)(T:aV):Nat->aN->Prop
 |1,f=>∃i:Nat,i<=1000/\f=(1,(i:Int),0,0,0)
 |2,f=>∃i k:Nat,i<=1000/\k<=1000/\f=(2,(i:Int),(k:Int),0,0)
 |3,f=>∃(i:Nat) (D:i<A.length) (y:Nat) (J:y<A.length),(A[y]).1.1=(A[i]).1.1/\f=(3,(i:Int),(y:Int),0,0)
 |4,f=>∃i k:Nat,i<A.length/\k<=1000/\f=(4,(i:Int),(k:Int),0,0)
 |5,f=>∃i k j:Nat,i<A.length/\k<=1000/\j<=1000/\f=(5,(i:Int),(k:Int),(j:Int),0)
 |6,f=>∃(i:Nat) (D:i<A.length) (t:Nat) (F:t<T.length),(T[t]).1=(A[i]).1.1/\f=(6,(i:Int),(t:Int),0,0)
 |7,f=>∃(i:Nat) (D:i<A.length) (t:Nat) (F:t<T.length) (k:Nat),k<=1000/\(T[t]).1=(A[i]).1.1/\f=(7,(i:Int),(t:Int),(k:Int),0)
 |8,f=>∃(i:Nat) (D:i<A.length) (t:Nat) (F:t<T.length) (k j:Nat),k<=1000/\j<=1000/\(T[t]).1=(A[i]).1.1/\f=(8,(i:Int),(t:Int),(k:Int),(j:Int))
 |9,f=>∃i k y:Nat,i<A.length/\y<A.length/\k<=1000/\f=(9,(i:Int),(k:Int),(y:Int),0)
 |_,_=>False
theorem Rj{D:Nat->aN}{F:Nat->Nat->aN}{ns:List av}(h:bZ ns){f:aN}(hf:f∈qE D F ns):(∃i,i<=1000/\f=D i)\/∃i k,i<=1000/\k<=1000/\f=F i k:=by
 obtain⟨i,J,hf⟩:=dK.1 hf;have M:=h.many;rcases List.mem_cons.1 hf with hf|hf
 ·grind
 ·obtain⟨k,hk,hf⟩:=dK.1 hf;have L:=(h.eF _ (at2 J)).2.2.1;grind
theorem Yy(hA:bR A)(hR:bZ R){f:aN}(h:f∈gH A R T):∃k,1<=k/\k<=9/\f.1=((k:Nat):Int)/\Wm A T k f:=by
 rcases av3.1 h with h|h
 ·rcases Rj hR h with⟨i,h1,rfl⟩|⟨i,k,h1,h2,rfl⟩
  ·exact⟨1,by decide,by decide,rfl,i,h1,rfl⟩
  ·exact⟨2,by decide,by decide,rfl,i,k,h1,h2,rfl⟩
 ·obtain⟨i,D,h⟩:=dK.1 h;have he:=hA.dp _ (at2 D);rcases av3.1 h with h|h
  ·rcases av3.1 h with h|h
   ·rcases Rj he.qz h with⟨k,h1,rfl⟩|⟨k,j,h1,h2,rfl⟩
    ·exact⟨4,by decide,by decide,rfl,i,k,D,h1,rfl⟩
    ·exact⟨5,by decide,by decide,rfl,i,k,j,D,h1,h2,rfl⟩
   ·rcases av3.1 h with h|h
    ·obtain⟨z,M,h⟩:=dK.1 h;split at h
     ·obtain⟨y,L,e⟩:=dK.1 (at2 M);split at e
      ·rename_i F;rw[aw0.1 h,aw0.1 e];exact⟨3,by decide,by decide,rfl,i,D,y,L,of_decide_eq_true F,rfl⟩
      ·grind
     ·grind
    ·obtain⟨k,hk,h⟩:=dK.1 h;obtain⟨z,M,h⟩:=dK.1 h;obtain⟨y,L,e,_⟩:=wN.1 (at2 M);have N:=he.sB;rw[aw0.1 h,e];exact⟨9,by decide,by decide,rfl,i,k,y,D,L,by omega,rfl⟩
  ·obtain⟨t,J,h⟩:=dK.1 h;unfold uB at h;split at h
   ·rename_i F;have F:=of_decide_eq_true F;cases g:iN (A[i]).1 (T[t]).2 with
    |none=>rw[g]at h;rw[aw0.1 h];exact⟨6,by decide,by decide,rfl,i,D,t,J,F,rfl⟩
    |some x=>
     rw[g]at h;rcases Rj (he.pn (EH g)) h with⟨k,h1,rfl⟩|⟨k,j,h1,h2,rfl⟩
     ·exact⟨7,by decide,by decide,rfl,i,D,t,J,k,h1,F,rfl⟩
     ·exact⟨8,by decide,by decide,rfl,i,D,t,J,k,j,h1,h2,F,rfl⟩
   ·grind
def gb(A:List aq)(i:Int):ak:=match A[i.toNat]? with|some y=>[y.1.1,y.1.2.1,y.2.1]|none=>[]
theorem jE{i:Nat}(D:i<A.length):gb A (i:Int)=[(A[i]).1.1,(A[i]).1.2.1,(A[i]).2.1]:=by grind[gb]
def hJ(A:List aq)(T:aV)(f:aN):ak:=
 if f.1=1 then[b9 f.2.1.toNat]else if f.1=2 then[b9 f.2.1.toNat,b9 f.2.2.1.toNat]else gb A f.2.1++
  (if f.1=3 then(gb A f.2.2.1).drop 1 else if f.1=4 then[b9 f.2.2.1.toNat]else if f.1=5 then[b9 f.2.2.1.toNat,b9 f.2.2.2.1.toNat]
  else if f.1=9 then b9 f.2.2.1.toNat::gb A f.2.2.2.1 else((T[f.2.2.1.toNat]?).getD ([],[])).2::(if f.1=6 then[]else if f.1=7 then[b9 f.2.2.2.1.toNat]else[b9 f.2.2.2.1.toNat,b9 f.2.2.2.2.toNat]))
theorem aoX(R:List av){f:aN}{k:Nat}(h:Wm A T k f):mS (A,R,T) f=some ((eO[k]?).getD []::hJ A T f):=by
 have dg:∀n:Nat,n<=1000->lr n=some (b9 n):=λn N=>by unfold lr;simp (disch:=omega) only[K0]
 have hk:∀{R':Type} (n:Nat) (h:n<10) (q:aa->Option R'),J (0<=n/\n<([[],pg,ub,uq,kG,tV,tW,tX,tP,jg].length:Int)) (([[],pg,ub,uq,kG,tV,tW,tX,tP,jg][(n:Int).toNat]?).bind q)=q ((eO[n]?).getD []):=λn h q=>by
  refine(ai ⟨by omega,show(n:Int)<(10:Int) by omega⟩).trans ?_
  rw[av0,show[[],pg,ub,uq,kG,tV,tW,tX,tP,jg]=eO from rfl,au4 (show n<eO.length from h)];rfl
 have M:∀{R':Type} (a b c) (q:Option R'),J (0<=(1:Int)/\1<=([a,b,c].length:Int)/\([a,b,c].length:Int)<=(([a,b,c]:ak).length:Int)) q=q:=λa b c q=>ai (show(0:Int)<=1/\1<=3/\3<=3 by decide)
 have kn:∀{R':Type} (a b:ak) (q:Option R'),a.length+b.length<=100->J (a.length+b.length<=1000000000) q=q:=λa b q h=>ai (by omega)
 match k,f,h with
 |1,_,⟨i,h1,rfl⟩=>
  unfold mS;refine(hk 1 (by decide) _).trans ?_
  simp only[dg i h1];rfl
 |2,_,⟨i,j,h1,h2,rfl⟩=>
  unfold mS;refine(hk 2 (by decide) _).trans ?_
  simp only[dg i h1,dg j h2];rfl
 |3,_,⟨i,D,y,L,_,rfl⟩=>
  unfold mS;refine(hk 3 (by decide) _).trans ?_
  simp only[o9 R T i D,o9 R T y L,at0];rw[kn _ _ _ (by simp),M,kn _ _ _ (by simp)]
  rw[show hJ A T (3,i,y,0,0)=gb A i++(gb A y).drop 1 from rfl,jE D,jE L];rfl
 |4,_,⟨i,j,D,h1,rfl⟩=>
  unfold mS;refine(hk 4 (by decide) _).trans ?_
  simp only[o9 R T i D,dg j h1,at0];rw[kn _ _ _ (by simp),kn _ _ _ (by simp)]
  rw[show hJ A T (4,(i:Int),(j:Int),0,0)=gb A (i:Int)++[b9 j] from rfl,jE D];rfl
 |5,_,⟨i,j,l,D,h1,h2,rfl⟩=>
  unfold mS;refine(hk 5 (by decide) _).trans ?_
  simp only[o9 R T i D,dg j h1,dg l h2,at0];rw[kn _ _ _ (by simp),kn _ _ _ (by simp)]
  rw[show hJ A T (5,(i:Int),(j:Int),(l:Int),0)=gb A (i:Int)++[b9 j,b9 l] from rfl,jE D];rfl
 |6,_,⟨i,D,t,F,_,rfl⟩=>
  unfold mS;refine(hk 6 (by decide) _).trans ?_
  simp only[o9 R T i D,aI F,at0];rw[kn _ _ _ (by simp),kn _ _ _ (by simp)]
  rw[show hJ A T (6,(i:Int),(t:Int),0,0)=gb A (i:Int)++[((T[t]?).getD ([],[])).2] from rfl,jE D,au4 F];rfl
 |7,_,⟨i,D,t,F,j,h1,_,rfl⟩=>
  unfold mS;refine(hk 7 (by decide) _).trans ?_
  simp only[o9 R T i D,aI F,dg j h1,at0];rw[kn _ _ _ (by simp),kn _ _ _ (by simp)]
  rw[show hJ A T (7,(i:Int),(t:Int),(j:Int),0)=gb A (i:Int)++[((T[t]?).getD ([],[])).2,b9 j] from rfl,jE D,au4 F];rfl
 |8,_,⟨i,D,t,F,j,l,h1,h2,_,rfl⟩=>
  unfold mS;refine(hk 8 (by decide) _).trans ?_
  simp only[o9 R T i D,aI F,dg j h1,dg l h2,at0];rw[kn _ _ _ (by simp),kn _ _ _ (by simp)]
  rw[show hJ A T (8,(i:Int),(t:Int),(j:Int),(l:Int))=gb A (i:Int)++[((T[t]?).getD ([],[])).2,b9 j,b9 l] from rfl,jE D,au4 F];rfl
 |9,_,⟨i,j,y,D,L,h1,rfl⟩=>
  unfold mS;refine(hk 9 (by decide) _).trans ?_
  simp only[o9 R T i D,o9 R T y L,dg j h1,at0];rw[kn _ _ _ (by simp),kn _ _ _ (by simp),kn _ _ _ (by simp)]
  rw[show hJ A T (9,(i:Int),(j:Int),(y:Int),0)=gb A (i:Int)++b9 j::gb A (y:Int) from rfl,jE D,jE L];rfl
variable {A:List aq} {R:List av} {T:aV}
theorem an4:∀n:Nat,aW (b9 n)=n:=by
 intro n
 induction n using Nat.strongRecOn with
 |_ n F=>
  have D:∀m:Nat,m<10->(UInt8.ofNat (48+m)).toNat-48=m:=λm h=>by rw[UInt8.toNat_ofNat'];omega
  unfold b9;by_cases h:n<10
  ·rw[dif_pos h];show 0*10+((UInt8.ofNat (48+n)).toNat-48)=n;grind
  ·grind[RG]
theorem qB{d:aa}(D:cC d=true)(j:Nat):b9 j=d<->(j:Int)=((aW d:Nat):Int):=by
 constructor
 ·intro e;rw[<-e,an4]
 ·intro e;have e:j=aW d:=by omega
  unfold cC at D;simp only[au0,decide_eq_true_eq]at D;rw[e];exact ZL _ d rfl D.2 (by omega) D.1.2
theorem sd(hA:bR A){i:Nat}(F:i<A.length)(m v s:aa):((A[i]).1.1=m/\(A[i]).1.2.1=v/\(A[i]).2.1=s)<->(i:Int)=gA A m v s:=by
 have hk:((A[i]).1.1=m/\(A[i]).1.2.1=v/\(A[i]).2.1=s)<->iB A[i]=(m,v,s):=by unfold iB;simp
 rw[hk];have N:=List.pairwise_iff_getElem.1 hA.once;have inj:∀{a b:Nat} J (L:b<A.length),iB A[a]=iB A[b]->a=b:=λ{a b} J L e=>by grind
 unfold gA;rcases kD A (λy=>decide (iB y=(m,v,s)))with⟨h1,h2⟩|⟨j,M,_,h2,D,_⟩
 ·rw[h2];refine⟨λe=>?_,λe=>by omega⟩
  have:=List.any_eq_false.1 h1 _ (at2 F);grind
 ·rw[h2];have D:=of_decide_eq_true D;refine⟨λe=>?_,λe=>?_⟩
  ·rw[inj F M (e.trans D.symm)]
  ·have e:i=j:=by omega
   subst e;omega
theorem S4(hT:l7 T){t:Nat}(J:t<T.length)(w:Want)(n:Nat):T[t]=w<->(t:Int)=db n T w-(n:Int)-1:=by
 unfold db;rcases kD T (λx=>decide (x=w))with⟨h1,h2⟩|⟨j,F,_,h2,D,_⟩
 ·grind
 ·rw[h2];have D:=of_decide_eq_true D;refine⟨λe=>?_,λe=>?_⟩
  ·have:t=j:=by
     rcases Nat.lt_trichotomy t j with q|q|q
     ·have:=hT.nth q F;rw[e,D,kC.self]at this;omega
     ·omega
     ·have:=hT.nth q J;rw[e,D,kC.self]at this;omega
   omega
  ·grind
theorem sf{n:aa}{ws r:ak}{l:List Int}(h:dH A T [] n ws=some (l,r)):l=[]/\ws=r:=by injection h with h;injection h with h1 h2;exact⟨h1.symm,h2⟩
theorem YZ(hA:bR A)(hT:l7 T){k:Nat}{f:aN}(h:Wm A T k f){ws:ak}{l:List Int}(N:dH A T ((jW[k]?).getD []) [] ws=some (l,[])):hJ A T f=ws<->f=lJ (k:Int) l:=by
 match k,f,h with
 |1,_,⟨i,h1,rfl⟩=>obtain⟨d,q,D,rfl,M,J,rfl⟩:=pD N;obtain⟨rfl,rfl⟩:=sf J;show[b9 i]=[d]<->((1,i,0,0,0):aN)=(1,((aW d):Int),0,0,0);simp[Prod.mk.injEq,and_true,qB M]
 |2,_,⟨i,j,h1,h2,rfl⟩=>obtain⟨d,q,D,rfl,M,J,rfl⟩:=pD N;obtain⟨e,q,D,rfl,he,L,rfl⟩:=pD J;obtain⟨rfl,rfl⟩:=sf L;show[b9 i,b9 j]=[d,e]<->((2,i,j,0,0):aN)=(2,((aW d):Int),((aW e):Int),0,0);simp[Prod.mk.injEq,and_true,qB M,qB he]
 |3,_,⟨i,F,y,Z,U,rfl⟩=>
  obtain⟨m,v,s,q,D,rfl,_,J,rfl,_⟩:=rd_c N;obtain⟨v2,s2,q,D,rfl,_,L,rfl,_⟩:=ady J;obtain⟨rfl,rfl⟩:=sf L;rw[show hJ A T (3,i,y,0,0)=gb A i++(gb A y).drop 1 from rfl,jE F,jE Z]
  show[(A[i]).1.1,(A[i]).1.2.1,(A[i]).2.1,(A[y]).1.2.1,(A[y]).2.1]=[m,v,s,v2,s2]<->((3,i,y,0,0):aN)=(3,gA A m v s,gA A m v2 s2,0,0);simp[Prod.mk.injEq,and_true,<-sd hA F,<-sd hA Z,U];exact⟨λ⟨a,b,c,d,e⟩=>⟨⟨a,b,c⟩,a,d,e⟩,λ⟨⟨a,b,c⟩,_,d,e⟩=>⟨a,b,c,d,e⟩⟩
 |4,_,⟨i,j,F,h1,rfl⟩=>
  obtain⟨m,v,s,q,D,rfl,_,J,rfl,_⟩:=rd_c N;obtain⟨d,q,D,rfl,M,L,rfl⟩:=pD J;obtain⟨rfl,rfl⟩:=sf L;rw[show hJ A T (4,i,j,0,0)=gb A i++[b9 j] from rfl,jE F]
  show[(A[i]).1.1,(A[i]).1.2.1,(A[i]).2.1,b9 j]=[m,v,s,d]<->((4,i,j,0,0):aN)=(4,gA A m v s,((aW d):Int),0,0);simp[Prod.mk.injEq,and_true,<-sd hA F,qB M,and_assoc]
 |5,_,⟨i,j,l,F,h1,h2,rfl⟩=>
  obtain⟨m,v,s,q,D,rfl,_,J,rfl,_⟩:=rd_c N;obtain⟨d,q,D,rfl,M,L,rfl⟩:=pD J;obtain⟨e,q,D,rfl,he,Y,rfl⟩:=pD L;obtain⟨rfl,rfl⟩:=sf Y;rw[show hJ A T (5,i,j,l,0)=gb A i++[b9 j,b9 l] from rfl,jE F]
  show[(A[i]).1.1,(A[i]).1.2.1,(A[i]).2.1,b9 j,b9 l]=[m,v,s,d,e]<->((5,i,j,l,0):aN)=(5,gA A m v s,((aW d):Int),((aW e):Int),0);simp[Prod.mk.injEq,and_true,<-sd hA F,qB M,qB he,and_assoc]
 |6,_,⟨i,F,t,O,U,rfl⟩=>
  obtain⟨m,v,s,q,D,rfl,_,J,rfl,_⟩:=rd_c N;obtain⟨g,q,D,rfl,L,rfl,_⟩:=Np J;obtain⟨rfl,rfl⟩:=sf L;rw[show hJ A T (6,i,t,0,0)=gb A i++[((T[t]?).getD ([],[])).2] from rfl,jE F,au4 O]
  show[(A[i]).1.1,(A[i]).1.2.1,(A[i]).2.1,(T[t]).2]=[m,v,s,g]<->((6,i,t,0,0):aN)=(6,gA A m v s,db A.length T (m,g)-A.length-1,0,0);simp only[List.cons.injEq,Prod.mk.injEq,and_true,true_and,<-sd hA F,<-S4 hT O,and_assoc];exact⟨λ⟨a,b,c,d⟩=>⟨a,b,c,Prod.ext (U.trans a) d⟩,λ⟨a,b,c,d⟩=>⟨a,b,c,by rw[d]⟩⟩
 |7,_,⟨i,F,t,O,j,h1,U,rfl⟩=>
  obtain⟨m,v,s,q,D,rfl,_,J,rfl,_⟩:=rd_c N;obtain⟨g,q,D,rfl,L,rfl,_⟩:=Np J;obtain⟨d,q,D,rfl,M,Y,rfl⟩:=pD L;obtain⟨rfl,rfl⟩:=sf Y;rw[show hJ A T (7,i,t,j,0)=gb A i++[((T[t]?).getD ([],[])).2,b9 j] from rfl,jE F,au4 O]
  show[(A[i]).1.1,(A[i]).1.2.1,(A[i]).2.1,(T[t]).2,b9 j]=[m,v,s,g,d]<->((7,i,t,j,0):aN)=(7,gA A m v s,db A.length T (m,g)-A.length-1,((aW d):Int),0);simp only[List.cons.injEq,Prod.mk.injEq,and_true,true_and,<-sd hA F,<-S4 hT O,qB M,and_assoc];exact⟨λ⟨a,b,c,d,e⟩=>⟨a,b,c,Prod.ext (U.trans a) d,e⟩,λ⟨a,b,c,d,e⟩=>⟨a,b,c,by rw[d],e⟩⟩
 |8,_,⟨i,F,t,O,j,l,h1,h2,U,rfl⟩=>
  obtain⟨m,v,s,q,D,rfl,_,J,rfl,_⟩:=rd_c N;obtain⟨g,q,D,rfl,L,rfl,_⟩:=Np J;obtain⟨d,q,D,rfl,M,Y,rfl⟩:=pD L;obtain⟨e,q,D,rfl,he,ah,rfl⟩:=pD Y;obtain⟨rfl,rfl⟩:=sf ah;rw[show hJ A T (8,i,t,j,l)=gb A i++[((T[t]?).getD ([],[])).2,b9 j,b9 l] from rfl,jE F,au4 O]
  show[(A[i]).1.1,(A[i]).1.2.1,(A[i]).2.1,(T[t]).2,b9 j,b9 l]=[m,v,s,g,d,e]<->((8,i,t,j,l):aN)=(8,gA A m v s,db A.length T (m,g)-A.length-1,((aW d):Int),((aW e):Int));simp only[List.cons.injEq,Prod.mk.injEq,and_true,true_and,<-sd hA F,<-S4 hT O,qB M,qB he,and_assoc];exact⟨λ⟨a,b,c,d,e⟩=>⟨a,b,c,Prod.ext (U.trans a) d,e⟩,λ⟨a,b,c,d,e⟩=>⟨a,b,c,by rw[d],e⟩⟩
 |9,_,⟨i,j,y,F,Z,h1,rfl⟩=>
  obtain⟨m,v,s,q,D,rfl,_,J,rfl,_⟩:=rd_c N;obtain⟨d,q,D,rfl,M,L,rfl⟩:=pD J;obtain⟨m2,v2,s2,q,D,rfl,_,Y,rfl,_⟩:=rd_c L;obtain⟨rfl,rfl⟩:=sf Y;rw[show hJ A T (9,i,j,y,0)=gb A i++b9 j::gb A y from rfl,jE F,jE Z]
  show[(A[i]).1.1,(A[i]).1.2.1,(A[i]).2.1,b9 j,(A[y]).1.1,(A[y]).1.2.1,(A[y]).2.1]=[m,v,s,d,m2,v2,s2]<->((9,i,j,y,0):aN)=(9,gA A m v s,((aW d):Int),gA A m2 v2 s2,0);simp[List.cons.injEq,Prod.mk.injEq,and_true,true_and,<-sd hA F,<-sd hA Z,qB M,and_assoc]
theorem aoe{j k:Nat}(D:1<=j/\j<=9)(hk:1<=k/\k<=9)(h:(eO[j]?).getD []=(eO[k]?).getD []):j=k:=by
 have key:∀j k:Fin 10,(eO[j.1]?).getD []=(eO[k.1]?).getD []->j=k:=by decide
 have:=key ⟨j,by omega⟩ ⟨k,by omega⟩ h
 grind
theorem atf(hA:bR A)(hR:bZ R)(hT:(aA A R).length<=400)(facts:List cu)(hp:facts.Perm (iT A R (aA A R)))(hn:facts.length<=8000)(cl:List (List Int))(k:Nat)(hk:1<=k/\k<=9)(ws:ak)(hl:ws.length<=19)(hw:∀w∈ws,w.length<=80):
  r7 (jF A R) facts ((eO[k]?).getD []::ws) cl=some ((xc A R (k:Int) ((jW[k]?).getD []) ws).2,(xc A R (k:Int) ((jW[k]?).getD []) ws).1):=by
 have Z:l7 (aA A R):=QB _
 obtain⟨hj,hf,ah,az⟩:(eO[k]?).getD []≠dL/\rN ((eO[k]?).getD [])=some (((jW[k]?).getD []).flatMap jP)/\(∀b∈(jW[k]?).getD [],uz b)/\1<=(((jW[k]?).getD []).flatMap jP).length/\(((jW[k]?).getD []).flatMap jP).length<=20/\∀c∈((jW[k]?).getD []).flatMap jP,c=20\/c=1\/c=2\/c=3:=by
  have D:∀l:aa,l.all (λb=>b==110||b==99||b==118||b==102)=true->∀b∈l,uz b:=λl h b D=>by have:=ax0.1 h b D;unfold uz;simpa[or_assoc]using this
  match k,hk with
  |1,_=>exact⟨by decide,rfl,D _ rfl,by decide,by decide,by decide⟩
  |2,_=>exact⟨by decide,rfl,D _ rfl,by decide,by decide,by decide⟩
  |3,_=>exact⟨by decide,rfl,D _ rfl,by decide,by decide,by decide⟩
  |4,_=>exact⟨by decide,rfl,D _ rfl,by decide,by decide,by decide⟩
  |5,_=>exact⟨by decide,rfl,D _ rfl,by decide,by decide,by decide⟩
  |6,_=>exact⟨by decide,rfl,D _ rfl,by decide,by decide,by decide⟩
  |7,_=>exact⟨by decide,rfl,D _ rfl,by decide,by decide,by decide⟩
  |8,_=>exact⟨by decide,rfl,D _ rfl,by decide,by decide,by decide⟩
  |9,_=>exact⟨by decide,rfl,D _ rfl,by decide,by decide,by decide⟩
 obtain⟨h1,ar,a1⟩:=az;unfold r7 xc;rw[RL _ ws hl hw,at0]
 have aE:xX ((eO[k]?).getD []) ws=false:=by
  match ws with
  |[]=>rfl
  |[_]=>rfl
  |[_,_]=>rfl
  |a::b::c::r=>rw[Uh,dN hj];rfl
 simp only[K0,aE];show(rN ((eO[k]?).getD [])).bind _=_;simp (disch:=omega) only[K0,hf,RP _ ws _ ar a1 hw];cases D:dF (((jW[k]?).getD []).flatMap jP) ws with
 |false=>
  have no:¬ ∃l,dH A (aA A R) ((jW[k]?).getD []) [] ws=some (l,[]):=λq=>by rw[(Tb _ ah [] ws).1 q]at D;cases D
  cases M:dH A (aA A R) ((jW[k]?).getD []) [] ws with
  |none=>rfl
  |some x=>
   obtain⟨l,r⟩:=x;cases r with
   |nil=>exact absurd ⟨l,M⟩ no
   |cons=>rfl
 |true=>
  obtain⟨l,M⟩:=(Tb _ ah [] ws).2 D;rw[M];simp only[K0];have an:∀x∈facts,x.1∈gH A R (aA A R):=λx J=>(LA A R (aA A R)).mem_iff.1 (List.mem_map_of_mem (hp.mem_iff.1 J))
  have step:∀x∈facts,mS (A,R,aA A R) x.1=some ((eO[((x.1.1).toNat)]?).getD []::hJ A (aA A R) x.1)/\decide ((eO[((x.1.1).toNat)]?).getD []::hJ A (aA A R) x.1=(eO[k]?).getD []::ws)=decide (x.1=lJ k l):=λx J=>by
   obtain⟨j,j1,j2,je,hs⟩:=Yy hA hR (an x J);rw[je,av0];refine⟨aoX R hs,?_⟩;rw[aB9,decide_eq_true_eq,decide_eq_true_eq];constructor
   ·intro e;injection e with F L;have F:=aoe ⟨j1,j2⟩ hk F;subst F;exact(YZ hA Z hs M).1 L
   ·intro e
    have F:j=k:=by
     have:x.1.1=k:=by rw[e];rfl
     omega
    subst F;rw[(YZ hA Z hs M).2 e]
  have a6:∀x∈facts,(hJ A (aA A R) x.1).length<=1000:=λx J=>by
   obtain⟨j,j1,j2,je,hs⟩:=Yy hA hR (an x J);have N:∀i:Int,(gb A i).length<=3:=λi=>by unfold gb;split<;>simp
   have c1:=N x.1.2.1;have c2:=N x.1.2.2.1;have c3:=N x.1.2.2.2.1;unfold hJ
   repeat' split
   all_goals (try simp only[K0,au5,List.length_drop]);omega
  have main:=wo (f:=zF) facts (λx=>decide (x.1=lJ k l)) (λi=>(facts,(eO[k]?).getD []::ws,i,A,R,aA A R,())) (λx=>au8 (x.2,0,())) (au6 ()) (λi O U=>by
   obtain⟨F,L⟩:=step _ (at2 O);have Y:=Fi ((eO[((facts[i]).1.1).toNat]?).getD []::hJ A (aA A R) (facts[i]).1) ((eO[k]?).getD []::ws) (by grind)
   simp (disch:=omega) only[K0,zF,F,Y,L,U]) (λi O U=>by
   obtain⟨F,L⟩:=step _ (at2 O);have Y:=Fi ((eO[((facts[i]).1.1).toNat]?).getD []::hJ A (aA A R) (facts[i]).1) ((eO[k]?).getD []::ws) (by grind)
   simp (disch:=omega) only[K0,zF,F,Y,L,U]) (by
   simp[zF,av8,decide_false,cond_false])
  rw[show ae zF (facts,(eO[k]?).getD []::ws,0,(jF A R).1,(jF A R).2.1,(jF A R).2.2,())=_ from main,at0]
  have same:(facts.find? λx=>decide (x.1=lJ k l)).map (·.2)=se A R (lJ k l):=by
   obtain⟨e0,_⟩:=RT hA hR hT (lJ k l)
   have uniq:∀x∈iT A R (aA A R),x.1=lJ k l->se A R (lJ k l)=some x.2:=λx J e=>by
    have:=Yl A hA R hR hT x J;rw[e,e0]at this;cases hc:se A R (lJ k l)with
    |none=>rw[hc]at this;simp at this
    |some y=>rw[hc]at this;grind
   cases hf:facts.find? λx=>decide (x.1=lJ k l)with
   |some x=>have J:=hp.mem_iff.1 (aE4 hf);rw[uniq x J (by grind)];rfl
   |none=>
    unfold se;cases hg:(iT A R (aA A R)).find? λl'=>decide (l'.1=lJ k l)with
    |none=>rfl
    |some y=>have:=List.find?_eq_none.1 hf y (hp.mem_iff.2 (aE4 hg));exact absurd (List.find?_some hg) this
  rw[<-same];cases facts.find? λx=>decide (x.1=lJ k l)<;>rfl
variable {A:List aq} {R:List av}
theorem abA{a b:List Int}{v:Int}(D:fe a)(F:fe b){r:List Int}(h:fW a b v=some r):fe r:=by
 unfold fW at h;split at h
 ·grind
 ·cases h;exact Rk λx J=>(av3.1 J).elim (λh=>D.2 x (aC5.1 h).1) (λh=>F.2 x (aC5.1 h).1)
theorem apL(hA:bR A)(hR:bZ R)(hT:(aA A R).length<=400)(cl:List (List Int))(L:∀x∈cl,fe x)(w:aa)(r:ak):fe (nk A R cl w r).2:=by
 have J:fe []:=⟨au2 _,λx D=>(az1 D).elim⟩;have F:∀i:Nat,fe ((cl[i]?).getD []):=λi=>by grind
 unfold nk;split
 ·unfold qM;split
  ·rename_i j _;unfold F6;split
   ·omega
   ·split
    ·rename_i x D;rcases Option.or_eq_some_iff.1 D with h|⟨_,h⟩
     ·exact abA (F _) (F _) h
     ·exact abA (F _) (F _) h
    ·omega
  ·omega
 ·split
  ·unfold xc;split
   ·split
    ·rename_i x D;exact(RT hA hR hT _).2 x D
    ·omega
   ·omega
  ·omega
theorem atg(hA:bR A)(hR:bZ R)(hT:(aA A R).length<=400)(facts:List cu)(hp:facts.Perm (iT A R (aA A R)))(N:facts.length<=8000)(cl:List (List Int))(L:∀x∈cl,fe x)(hlen:cl.length<=1000000)(w:aa)(r:ak)(D:r.length<=19)(hw:∀x∈r,x.length<=80):
  r7 (jF A R) facts (w::r) cl=some ((nk A R cl w r).2,(nk A R cl w r).1):=by
 unfold nk;by_cases c:w=dL
 ·rw[c];exact ate hA hR hT facts cl L hlen r D hw
 ·rw[if_neg c];have J:=kD eO (λx=>decide (x=w));rw[show bC eO (λx=>decide (x=w))=pt w from rfl]at J
  by_cases c2:1<=pt w
  ·rw[if_pos c2];rcases J with⟨_,e⟩|⟨n,F,_,e,h1,_⟩
   ·omega
   ·have U:n<10:=F;have O:(eO[n]?).getD []=w:=by rw[au4 F];exact of_decide_eq_true h1
    have:=atf hA hR hT facts hp N cl n ⟨by omega,by omega⟩ r D hw
    grind
  ·rw[if_neg c2]
   have M:xX w r=false:=by
    match r with
    |[]=>rfl
    |[_]=>rfl
    |[_,_]=>rfl
    |a::b::d::r=>grind[Uh]
   have ne:∀k:aa,1<=pt k->¬w=k:=λk h e=>c2 (e▸h);have hf:rN w=some []:=by unfold rN;rw[dN (ne _ (by decide)),cond_false,dN (ne _ (by decide)),cond_false,dN (ne _ (by decide)),cond_false,dN (ne _ (by decide)),cond_false,dN (ne _ (by decide)),cond_false,dN (ne _ (by decide)),cond_false,dN (ne _ (by decide)),cond_false,dN (ne _ (by decide)),cond_false,dN (ne _ (by decide)),cond_false]
   unfold r7;rw[RL _ r D hw,M];show(rN w).bind _=_;grind
theorem alH(hA:bR A)(hR:bZ R)(hT:(aA A R).length<=400)(facts:List cu)(hp:facts.Perm (iT A R (aA A R)))(hn:facts.length<=8000)(ls:List aD)(ah:∀L∈ls,bD L/\1<=L.2.1.length)(hm:ls.length<=50000):∀m i (cl:List (List Int)),ls.length-i=m->1<=i->i<=ls.length->(∀x∈cl,fe x)->cl.length<=i->
  ae qj (ls,facts,(i:Int),A,R,aA A R,cl,())=some (if(eP A R (ls.drop i) true cl).1=0 then .inl ((eP A R (ls.drop i) true cl).2.2.2,())else .inr ((eP A R (ls.drop i) true cl).2.1,(eP A R (ls.drop i) true cl).1,())):=by
 intro m
 induction m with
 |zero=>
  intro i cl an h1 hi F hl;obtain rfl:i=ls.length:=by omega
  rw[ay8];exact bf (by simp[qj,decide_false,eP])
 |succ m ih=>
  intro i cl an h1 hi F hl;have h:i<ls.length:=by omega
  obtain⟨N,O⟩:=ah _ (at2 h);rw[av6 h];unfold eP
  obtain⟨w,r,M⟩:∃w r,(ls[i]).2.1=w::r:=by
   cases e:(ls[i]).2.1 with
   |nil=>rw[e]at O;cases O
   |cons w r=>exact⟨w,r,rfl⟩
  have Z:=N.2.1;rw[M,av1]at Z;have D:=atg hA hR hT facts hp hn cl F (by omega) w r (by omega) λx Y=>(N.2.2 x (by grind)).2
  have U:=apL hA hR hT cl F w r;have D:r7 (A,R,aA A R) facts (w::r) cl=_:=D;rw[M,Ti,if_neg (show¬(true=false) by decide)]
  generalize nk A R cl w r=y at D U;dsimp only;have c0:¬(i:Int)=0:=by omega
  have g:∀{R':Type} (q:aD->Option R'),(ag ls (i:Int)).bind q=q ls[i]:=λq=>aI h q;by_cases c:y.1=0
  ·have cg:∀{R':Type} x (q:Option R'),J (cl.length+[x].length<=1000000000) q=q:=λx q=>mZ (by omega)
   simp[if_pos c];rw[bd (v':=(ls,facts,((i+1):Int),A,R,aA A R,cl++[y.2],())) (by simp (disch:=omega) only[K0,qj,M,D])]
   exact ih (i+1) _ (by omega) (by simp) h (λx Y=>(av3.1 Y).elim (F x) λq=>aw0.1 q▸U) (by rw[au5,List.length_singleton];omega)
  ·simp[if_neg c];exact bf (by simp (disch:=omega) only[K0,qj,M,D])
theorem asw(hA:bR A)(hR:bZ R)(s:aa)(hs:s.length<=20000):ER (jF A R) s=some (FT A R s):=by
 have h1:=WW (s.length+1) (by omega) s hs s.length 0 1 [] (by simp) (by simp) (by simp) (by simp) (by simp)
 have h1:ae vR (s,s.length+1,1,0,0,0,0,[],())=some (ng (fi (s.length+1) s 1 [])):=h1;unfold ER FT;rw[ai (show ab .i64 (s.length+1) from ba (by omega))]
 unfold DL;rw[h1];cases h:fi (s.length+1) s 1 []with
 |bad c l aE=>have hc:=Q3 _ _ _ _ _ _ _ _ (at9 _) h;simp (disch:=omega) only[K0,ng]
 |ok Z=>
  obtain⟨h1,h2⟩:=QQ (s.length+1) s.length s 1 [] Z (at9 _) (by simp) (by simp) (λd F=>by cases F) h
  obtain⟨ls,O⟩:∃ls,ls=Z.map mn:=⟨_,rfl⟩;have U:∀L∈ls,bD L/\1<=L.2.1.length:=λL M=>by rw[O]at M;obtain⟨d,F,rfl⟩:=ax1.1 M;exact h1 d F
  have hn:ls.length<=20001:=by rw[O,au1];omega
  have ha:=SP A hA R hR;obtain⟨D,g1,g2,g3⟩:=apK A hA R hR (aA A R) ha;have g4:D.length=(gH A R (aA A R)).length:=by rw[g2.length_eq,<-(LA A R (aA A R)).length_eq,au1]
  have g1:Dr (jF A R)=some D:=g1;simp only[ng,<-O,at0,decide_true,av2,cond_false,g1,(aqJ A hA R hR).2];by_cases h4:400<A.length+(aA A R).length
  ·rw[if_pos (.inl h4),dY (show(400:Int)<((A.length+(aA A R).length:Nat):Int) by omega)];rfl
  ·simp (disch:=omega) only[K0];have hT:(aA A R).length<=400:=by omega
   by_cases h8:8000<D.length
   ·rw[if_pos (.inr (by omega)),dY (show(8000:Int)<D.length by omega)];rfl
   ·simp (disch:=omega) only[K0]
    have key:ae qj (ls,D,0,A,R,aA A R,[],())=some (if(eP A R ls false []).1=0 then .inl ((eP A R ls false []).2.2.2,())else .inr ((eP A R ls false []).2.1,(eP A R ls false []).1,())):=by
     cases e:ls with
     |nil=>exact bf (by simp[qj,List.length_nil,Int.natCast_zero,av8,decide_false,cond_false,eP,if_true])
     |cons L rest=>
      obtain⟨M,ah⟩:=U L (e▸aw4)
      obtain⟨w,r,N⟩:∃w r,L.2.1=w::r:=by
       cases e:L.2.1 with
       |nil=>rw[e]at ah;cases ah
       |cons w r=>exact⟨w,r,rfl⟩
      have an:=M.2.1;rw[N,av1]at an;have hlen:(L::rest).length=rest.length+1:=rfl;have g:∀{R':Type} (q:aD->Option R'),(ag (L::rest) 0).bind q=q L:=λq=>Uk (by simp) q
      have tx:=Fi (w::r) [rM] (by rw[av1];omega)
      unfold eP;rw[N,Ti,if_pos rfl];by_cases c:w=rM/\r=[]
      ·have F:decide (w::r=[rM])=true:=by rw[c.1,c.2];rfl
       rw[if_pos c,if_pos rfl];have:=alH hA hR hT D g2 (by omega) (L::rest) (by rw[<-e];exact U) (by rw[<-e];omega) rest.length 1 [] (by omega) (by omega) (by omega) (λx Y=>(az1 Y).elim) (au2 _)
       rw[bd (v':=(L::rest,D,(1:Int),A,R,aA A R,[],())) (by simp (disch:=omega) only[K0,qj,g,N,tx,F];rfl)]
       exact this
      ·have F:decide (w::r=[rM])=false:=dN (λq=>c (by injection q with a b;exact⟨a,b⟩)) _
       rw[if_neg c];dsimp only;simp (disch:=omega) only[K0];exact bf (by simp only[qj,dY (show(0:Int)<((L::rest).length) by rw[hlen];omega),cond_true,decide_true,g,N,tx,F,at0,aw3])
    rw[show ae qj (ls,D,0,(jF A R).1,(jF A R).2.1,(jF A R).2.2,[],())=_ from key,at0]
    by_cases c:(eP A R ls false []).1=0
    ·rw[if_pos c,if_pos c]
     have ar:(eP A R ls false []).2.2.2.length<=ls.length:=by
      rcases adh hA hR hT ls (λL M=>(U L M).1) (by omega) ls.length 0 false [] rfl (au2 _) (λx Y=>(az1 Y).elim) (au2 _)with⟨_,q,_⟩|⟨q,_⟩
      ·rw[ax7]at q;exact q
      ·rw[ax7]at q;exact absurd c q
     generalize(eP A R ls false []).2.2.2=cl at ar⊢;simp only[];by_cases c0:(cl.length:Int)=0
     ·rw[dY c0,az2.1 (show cl.length=0 by omega)];rfl
     ·have e2:cl.length-1=((cl.length-1:Nat):Int):=by omega
      have az:cl.length-1<cl.length:=by omega
      have c1:∀{R:Type} (q:Option R),J (ab .i64 ((cl.length-1):Int)) q=q:=λq=>ai (ba (by omega))
      have c2:∀{R:Type} (q:Option R),J (0<=((cl.length-1):Int)/\((cl.length-1):Int)<cl.length) q=q:=λq=>ai ⟨by omega,by omega⟩
      have g1:cl[cl.length-1]? =some (cl[cl.length-1]):=au4 az;simp (disch:=omega) only[K0,e2,c1,c2,g1];rw[List.getLast?_eq_getElem?,g1];cases cl[cl.length-1]with
      |nil=>rfl
      |cons x r=>rw[dY (show(0:Int)<((x::r).length) by rw[av1];omega)];rfl
    ·rw[if_neg c,if_neg c]
theorem ahV(x)(s:aa):I7 x s=some true:=by
 obtain⟨⟨⟨p,t,F⟩,m⟩,rfl⟩:∃y,y=x:=⟨x,rfl⟩;have hex:=ajf;unfold I7;rcases aoM p t F m with⟨A,R,hA,hR,D⟩|D
 ·simp only[D,hex];by_cases c1:5000<s.length
  ·grind
  ·simp (disch:=omega) only[K0,asv hA hR s (by omega),aq9 A hA R hR,show ER (A,R,aA A R) s=_ from asw hA hR s (by omega)]
   rfl
 ·obtain⟨o,J,b⟩:=od D;grind
abbrev iX:Ty:=.int .i64
abbrev Z_o:Ty:=.pair .str (.pair .str (.sl .str))
abbrev HX:Ty:=.sl Z_o
abbrev Z_a:Ty:=.sl (.pair (.pair .str (.pair .str (.pair .str (.pair .str (.pair .bool (.pair HX (.pair HX (.sl (.pair .str HX))))))))) (.pair .str iX))
abbrev kq:SS:=.c (.v (.sl iX))
abbrev HW:Nat×SS:=(0,.st (.pair Z_a (.pair HX (.sl (.pair .str .str)))))
abbrev iE:SS:=.c (.v iX)
abbrev Z_l:Ty:=.pair iX (.pair iX (.pair iX (.pair iX iX)))
abbrev V3:SS:=.c (.v (.sl (.pair Z_l (.sl iX))))
abbrev tf:SS:=.c (.v (.sl .str))
abbrev V2:SO:=.var 38 [.v Z_a,.v HX,.v (.sl (.pair .str .str))]
abbrev yb:bo:={pre:=[.aY 4]}
abbrev Ca:SS:=.c (.v .bool)
abbrev OS:EK×Shape:=(.normal,⟨[],[]⟩)
abbrev OR:Nat×SS:=(8,.c (.own 44))
def XD:FS:=mkG [DM,aae] [(29,{cut:=[OS,(.ret,⟨[(4,.c (.kb false))],[]⟩)]}),(58,{loop:=some ⟨[(0,tf),(1,kq),(5,iE)],[]⟩})] 162 ⟨[(0,tf),(1,kq)],[]⟩ [(false,⟨[(4,Ca)],[]⟩)] (k2 zp)
def aj7:FS:=mkG [DM,XD] [] 157 ⟨[(0,tf)],[]⟩ [(false,⟨[(2,Ca)],[]⟩)] (k1 KM)
def Yz:FS:=mkG [] [] 241 ⟨[HW,(1,iE)],[]⟩ [(false,⟨[(4,tf)],[]⟩)] (k2 wD)
def aiX:FS:=mkG [Kv,Qj,Yz] [(29,{cut:=[OS,(.ret,⟨[(4,iE)],[]⟩)]}),(58,{loop:=some ⟨[(1,tf),(2,.c (.ptr 2 0)),(5,iE)],[(2,V2)]⟩})] 159 ⟨[HW,(1,tf)],[]⟩ [(false,⟨[(4,iE)],[]⟩)] (k2 J8)
def ami:FS:=mkG [K5] [(13,{cut:=[OS,(.ret,⟨[(2,.c (.kb true))],[]⟩)]}),(26,{loop:=some ⟨[(0,kq),(3,iE)],[]⟩})] 340 ⟨[(0,kq)],[]⟩ [(false,⟨[(2,Ca)],[]⟩)] (k1 LF)
def ajs:FS:=mkQ [Q5,K5,ami] [(61,{cut:=[(.normal,⟨[(1,kq),(2,iE),OR],[(44,.row 3 iX)]⟩)]}),(122,{pre:=[.dI 8 44 (.row [] 3 iX [])],loop:=some ⟨[(0,kq),(1,kq),(2,iE),OR,(9,iE)],[(44,.row 3 iX)]⟩}),(125,{cut:=[(.normal,⟨[OR],[(44,.row 3 iX)]⟩)]}),(250,{loop:=some ⟨[(1,kq),(2,iE),OR,(10,iE)],[(44,.row 3 iX)]⟩}),(252,{rd:=[66]}),(254,{ow:=[68],ps:=[(68,[(1000,44)])]})] 242 ⟨[(0,kq),(1,kq),(2,iE)],[]⟩ [(false,⟨[(6,kq),(7,Ca)],[]⟩)] (k3 DW)
def amh:FS:=mkQ [ajs] [] 160 ⟨[(0,kq),(1,kq),(2,iE)],[]⟩ [(false,⟨[(6,kq),(7,Ca)],[]⟩)] (k3 LD)
def akV:FS:=mkG [] [(6,{ow:=[4]}),(468,{ow:=[8]}),(469,{pre:=[.aY 8]}),(1884,{ow:=[11]}),(1885,{pre:=[.aY 11]}),(7549,yb),(30205,yb),(120829,yb),(483325,yb),(1933309,yb),(7733245,yb),(30932989,yb)] 161 ⟨[(0,.c (.v .str))],[]⟩ [(false,⟨[(2,kq)],[]⟩)] (k1 rN)
def akW:FS:=mkG [akn,Yz] [(6,{ow:=[7]}),(62,{ow:=[32]}),(116,{ow:=[19]}),(117,{pre:=[.aY 19]}),(244,{ow:=[30]}),(245,{pre:=[.aY 30]}),(255,{pre:=[.aY 32]})] 163 ⟨[HW,(1,.st Z_l)],[]⟩ [(false,⟨[(4,tf)],[]⟩)] (k2 mS)
def anI:FS:=mkQ [DM,Kv,amh,XD,aj7,akW,akV,aiX] [(125,{cut:=[OS,(.ret,⟨[(8,kq),(9,iE)],[]⟩)]}),(250,{loop:=some ⟨[(1,V3),(3,tf),(4,.c (.ptr 4 0)),(18,iE)],[(4,V2)]⟩})] 86 ⟨[HW,(1,V3),(2,.c (.own 3000)),(3,tf)],[(3000,.row 55 (.sl iX))]⟩ [(false,⟨[(8,kq),(9,iE)],[]⟩)] (k4 r7)
def akX:FS:=mkQ [anI,Xf,Kv,ail,aiD] [(509,{cut:=[(.normal,⟨[(9,.c (.own 80))],[(80,.row 55 (.sl iX))]⟩),(.ret,⟨[(4,iE),(5,iE)],[]⟩)]}),(1018,{pre:=[.dI 9 80 (.row [] 55 (.sl iX) [])],loop:=some ⟨[(2,.c (.ptr 2 0)),(6,.c (.v (.sl (.pair iX (.pair (.sl .str) (.sl iX)))))),(8,V3),(9,.c (.own 80)),(10,iE)],[(2,V2),(80,.row 55 (.sl iX))]⟩}),(65170,{ow:=[66],kf:=[(0,.q [2]),(5,.q []),(6,.q []),(7,.q []),(8,.r [] [80] false)],ps:=[(66,[(3000,80)])]})] 36 ⟨[HW,(1,.c (.v .str))],[]⟩ [(false,⟨[(4,iE),(5,iE)],[]⟩)] (k2 ER)
def WK:FS:=mkG [Xa,WX,aia,anK,akX] [] 8 ⟨[(0,.st (.pair Z_o .str)),(1,.c (.v .str))],[]⟩ [(false,⟨[(4,Ca)],[]⟩)] (k2 I7)
section
open Go.WideShapes
theorem explainChecks_walk(p t m:ByteArray)(J:List (List UInt8))(D:Value)(s:ByteArray)(w:World)(U:RowOf 1 StrC w D J)(Y:TabOk w.heap[tabB]?):
  Calls Tryz.prog 8 #[.agg #[.string p,.string t,D,.string m],.string s] w λe w'=>e=.returned (.bool true)/\Below w.heap.size w w':=by
 have N:WK.F _ (((p.data.toList,t.data.toList,J),m.data.toList),s.data.toList,()) some=some (true,()):=by show(I7 _ _).bind _=_;rw[ahV _ _];rfl
 obtain⟨o,h1,h2⟩:=WK.ok _ _ _ _ N;have L:=(Option.some.inj h1);subst L;have M:fw Tryz.prog 8 [.agg [.v .str p.data.toList,.v .str t.data.toList,.v (.sl .str) J,.v .str m.data.toList],.c (.v .str s.data.toList)] [] (.ret (.c (.v .bool true)) []):=h2;refine(M.run (A:=λb _=>b<w.heap.size) (w:=w) (vals:=[.agg #[.string p,.string t,D,.string m],.string s]) (λ_ _ q=>q) Y (.cons ⟨[.string p,.string t,D,.string m],rfl,.cons (LY p) (.cons (LY t) (.cons (ano U) (.cons (LY m) .nil)))⟩ (.cons (LY (h:=fq) s) .nil))).mono ?_;rintro e w' ⟨x,c',rfl,O,Z⟩;exact⟨by rw[FQ Z (v:=.bool true) rfl],O.below⟩
end
end
end Go.Proofs.YtejhifnjgoclpaaGreatDoor.Fx
