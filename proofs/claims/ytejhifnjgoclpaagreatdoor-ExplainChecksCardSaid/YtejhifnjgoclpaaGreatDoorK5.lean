/- Parts of the proofs, put together by a program. -/
import Derived.Test.YtejhifnjgoclpaaGreatDoorK4
import Derived.Laws.BitsAllLaws
set_option linter.unusedVariables false
set_option linter.unusedSimpArgs false
open Option renaming bind_some->at0,bind_eq_some_iff->ay0,map_some->az7
open List renaming getElem_mem->at2,length_map->au1,getElem?_eq_getElem->au4,length_append->au5,length_cons->av1,replicate->av5,drop_eq_getElem_cons->av6,map_append->aw1,mem_cons->aw2,mem_cons_self->aw4,append_nil->aw5,length_take->aw7,append_assoc->aw9,all_eq_true->ax0,mem_map->ax1,take_append_drop->ax4,take_length->ax6,drop_zero->ax7,getElem_map->ax8,length_nil->ay2,length_drop->ay3,all_cons->ay4,length_pos_iff->ay5,drop_length->ay8,not_mem_nil->az1,length_eq_zero_iff->az2,take_succ_eq_append_getElem->az5,mem_of_getElem?->az6,map_map->aA1,range->aA2,nodup_nil->aA3,length_set->aA9,foldl_cons->aB3,getElem_of_mem->aC7,pairwise_iff_getElem->aD6,any_cons->aD7,map_congr_left->aE3,flatMap_map->aE7,getElem_take->aH1,getElem_drop->aH4,filter_append->aH5,flatMap_cons->aI5
open Nat renaming le_refl->at9,zero_le->au2,le_trans->aw8,zero_add->ax2,mul_le_mul_right->az8,mul_add->aA4,lt_of_lt_of_le->aA5,pow_le_pow_right->aA8,mul_comm->aB5,add_comm->aB6,pow_succ->aC0,add_sub_cancel->aC1,mul_one->aD8,mul_le_mul_left->aE2,min_eq_left->aF3,lt_trichotomy->aG2,zero_lt_succ->aG4,succ_lt_succ->aG5,and_two_pow_sub_one_eq_mod->aI1,testBit_two_pow_sub_succ->aI4
open Bool renaming and_eq_true->au0,not_true->av2,false_eq_true->av7,not_false->aw3,not_eq_true'->ay6,true_and->az4,eq_false_or_eq_true->az9,false_and->aA6,and_self->aC6,and_false->aD5,and_assoc->aF9
open Sum renaming inl->au6,inr->au8
open Int renaming toNat_natCast->av0,lt_irrefl->av8
open Go.IntKind renaming bits->av9
namespace Go.Proofs.YtejhifnjgoclpaaGreatDoor.Fx
open Go.RowKit
set_option maxRecDepth 1000000
noncomputable section
theorem jd(o:gT)(h:¬o.2.2.1=0):gM o=some o:=by unfold gM;simp only[K0,qt o h]
theorem mV(L:aD)(D:bD L)(k:Nat)(h:k<L.2.1.length):gM (L,(k:Int),0,0,0)=some (L,((k+1:Nat):Int),1,L.1,aG L (k+1)):=by have F:=D.2.1;unfold gM;simp (disch:=omega) only[K0,qn L k (0,0),gN 1 L D (k+1) h (0,0) rfl]
theorem mU(L:aD)(k:Nat)(h:¬k<L.2.1.length):gM (L,(k:Int),0,0,0)=some (L,(k:Int),0,0,0):=by unfold gM;simp (disch:=omega) only[K0,qn L k (0,0)]
def S0:eC:=⟨[],true,[],[],[],[],[],false,[],[],true,[],[],[]⟩
def mu(ls:List aD)(i:Nat)(S:eC):List aD×Int×Int×aa×Bool×List nH×aa×Int×Int×Int×aa×Int×Int×Bool×List ep×List ep×Bool×List xg×aa×List ep×Unit:=
 (ls,(ls.length:Int),(i:Int),S.src,S.em,S.l.map cZ,S.n,(aO S.v).1.1,(aO S.v).1.2.1,(aO S.v).1.2.2,(aO S.v).2,(dz S.d:Int),fY S.b,S.y,S.bs.map aX,S.ns.map aX,S.em1,S.fl.map ff,S.fn,S.fns.map aX,())
def mi(ls:List aD)(i:Nat)(S:eC):List aD×Int×aa×Int×Int×Int×aa×Bool×List bN×aa×aa×aa×aa×Bool×List av×List av×Bool×List fk×aa×List av×Unit:=
 (ls,(i:Int),[],0,0,0,S.src,S.em,S.l,S.n,S.v,S.d,S.b,S.y,S.bs,S.ns,S.em1,S.fl,S.fn,S.fns,())
def xh{A B C:Type}(r:Option (A⊕(B⊕(Value×C))))(v:Value):Prop:=match r with|some (.inr (.inr x))=>x.1=v|_=>False
theorem AS{A B C:Type}{r:Option (A⊕(B⊕(Value×C)))}{v:Value}(h:xh r v):∃b,r=some (.inr (.inr (v,b))):=by
 unfold xh at h;split at h
 ·grind
 ·grind
def Nc(ls:List aD)(i:Nat)(S:eC):Prop:=
 (∃D,j7 D/\lg (mu ls i S)=some (.inl (mu ls (i+1) D))/\lq (mi ls i S)=some (.inl (mi ls (i+1) D)))\/
 (∃c l F:Int,¬c=0/\xh (lg (mu ls i S)) (bV c l F)/\lq (mi ls i S)=some (.inr (.inr ([],c,l,F,()))))
theorem alY(ls:List aD)(h0:0<ls.length)(hn:ls.length<=800)(D:bD ls[0])(h1:1<=(ls[0]).2.1.length):Nc ls 0 S0:=by
 have Y:∀{R:Type} (f:aD->Option R),(ag ls (((0:Nat):Int))).bind f=f ls[0]:=λf=>aI (k:=0) h0 f;generalize an:ls[0]=L at D h1 Y;have N:=me L D 0 h1;have O:=qq L D 0 (0,0) h1;have N:dS (L,0)=_:=N;have O:jz (L,0,0,0,0)=_:=O;unfold Nc mu mi;simp only[lg,lq,S0,dY (show((0:Nat):Int)<ls.length by omega),Y,O,at0,dY (show((0:Nat):Int)=0 by rfl),JB,N,decide_true]
 by_cases hi:L.2.1[0]=S6
 ·simp only[dY hi,cond_true];rcases TC L 1 D h1 with⟨h2,hp,F,J⟩|⟨c,l,U,k',w',hc,ar,F,J⟩
  ·simp only[id]at F;have F:=F;have J:=J;simp only[F,J,at0,fC];by_cases M:1+1<L.2.1.length
   ·refine .inr ⟨1,L.1,aG L (1+1+1),by decide,?_,?_⟩
    ·have ah:=D.2.1;simp (disch:=omega) only[K0,bP 1 L D (1+1+1) M];rfl
    ·simp (disch:=omega) only[K0,mV L D (1+1) M,bn]
   ·refine .inl ⟨{S0 with src:=L.2.1[1]},⟨hp,(λe h=>by cases h),au2 _,aA3,au2 _,au2 _⟩,?_,?_⟩
    ·simp (disch:=omega) only[K0];rfl
    ·simp only[K0,mU L (1+1) M];rfl
  ·have F:=F;have J:=J;refine .inr ⟨c,l,U,hc,?_,?_⟩
   ·simp only[F];rfl
   ·simp (disch:=omega) only[K0,J,jd (L,k',c,l,U) hc,bn]
 ·have hf:=bP 1 L D (0+1) h1;have Z:=gN 1 L D (0+1) h1 (0,0) rfl;have hc:¬(1:Int)=0:=by decide
  refine .inr ⟨1,L.1,aG L (0+1),by decide,?_,?_⟩
  ·simp (disch:=omega) only[K0,hf];rfl
  ·simp (disch:=omega) only[K0,Z,jb _ (L,((0+1:Nat):Int),1,L.1,aG L (0+1)) hc,jd (L,((0+1:Nat):Int),1,L.1,aG L (0+1)) hc,bn]
theorem Sg{s:aa}(h:bQ s=true):¬s=[]:=λe=>by rw[e]at h;cases h
theorem anr(ls:List aD)(i:Nat)(hi:i<ls.length)(h0:0<i)(hn:ls.length<=800)(M:bD ls[i])(h1:1<=(ls[i]).2.1.length)(S:eC)(Y:j7 S):Nc ls i S:=by
 have hg:∀{R:Type} (f:aD->Option R),(ag ls i).bind f=f ls[i]:=λf=>aI hi f;generalize bx:ls[i]=L at M h1 hg;have a7:=me L M 0 h1;have a8:=qq L M 0 (0,0) h1;have a7:dS (L,0)=_:=a7;have a8:jz (L,0,0,0,0)=_:=a8;have bp:=M.2.1;have bb:=Sg Y.src;have a1:i+1<=4611686018427387904:=by omega
 unfold Nc mu mi;simp only[lg,lq,dY (show(i:Int)<ls.length by omega),cond_true,hg,a8,at0,dN (show¬(i:Int)=0 by omega),cond_false,JB,a7,dN bb,aw3]
 by_cases c1:L.2.1[0]=S7
 ·simp only[dY c1,cond_true];rcases aox S Y L M (0+1) h1 with⟨U,J,Z,ar,ah,D,F⟩|⟨c,l,O,J,hc,ah,D,F⟩
  ·have D:=D;have F:=F;unfold jX at D;unfold FV at F;simp only[D,F,at0,so,acO,fC];by_cases N:J<L.2.1.length
   ·refine .inr ⟨1,L.1,aG L (J+1),by decide,?_,?_⟩
    ·simp (disch:=omega) only[K0,bP 1 L M (J+1) N];rfl
    ·simp (disch:=omega) only[K0,mV L M J N,bn]
   ·refine .inl ⟨U,Z,?_,?_⟩
    ·simp (disch:=omega) only[K0]
    ·simp only[mU L J N,at0,bn,decide_true,av2,cond_false,aS,aC a1]
  ·obtain⟨b,D⟩:=mh D;obtain⟨t,F,an⟩:=od F;unfold jX at D;unfold FV at F;refine .inr ⟨c,l,O,hc,?_,?_⟩
   ·simp only[D,at0];rfl
   ·simp (disch:=omega) only[K0,F,an,jd (L,J,c,l,O) hc,bn]
 ·simp only[dN c1,cond_false,au1,adg S];cases he:S.em with
  |true=>
   have e0:(eo S).length=0:=by unfold eo;rw[he];rfl
   have hc:¬(1:Int)=0:=by decide
   have hf:=bP 1 L M (0+1) h1;have a6:=gN 1 L M (0+1) h1 (0,0) rfl;refine .inr ⟨1,L.1,aG L (0+1),by decide,?_,?_⟩
   ·simp only[K0,e0,hf];rfl
   ·simp (disch:=omega) only[K0,e0,a6,jd (L,((0+1:Nat):Int),1,L.1,aG L (0+1)) hc,bn]
  |false=>
   have e1:(eo S).length=S.l.length+1:=by unfold eo;rw[he];simp
   have b0:=Y.lB;have ex:(((S.l.length+1:Nat):Int)-1)=(S.l.length:Int):=by omega
   simp only[e1,dN (show¬((S.l.length+1:Nat):Int)=0 by omega),cond_false,ex,ai (show ab .i64 (S.l.length:Int) by exact ba (by omega)),aw3,F4,ai (show(0:Int)<=(S.l.length:Int)/\(S.l.length:Int)<=(S.l.length:Int) by omega),dY (show(S.l.length:Int)=(S.l.length:Int) by rfl),cond_true]
   by_cases c2:L.2.1[0]=jg
   ·simp only[c2,dN (show¬jg=gy by decide),decide_true,cond_true,cond_false]
    rcases arN S Y he L M (0+1) h1 with⟨U,J,Z,ar,aE,az,ah,D,F⟩|⟨c,l,O,J,hc,ah,D,F⟩
    ·unfold jX at D;unfold ui at F;rw[he]at D;simp only[D,F,at0,so,Nb,fC];by_cases N:J<L.2.1.length
     ·refine .inr ⟨1,L.1,aG L (J+1),by decide,?_,?_⟩
      ·simp (disch:=omega) only[K0,bP 1 L M (J+1) N];rfl
      ·simp (disch:=omega) only[K0,mV L M J N,bn]
     ·refine .inl ⟨U,Z,?_,?_⟩
      ·simp (disch:=omega) only[K0]
      ·simp only[mU L J N,at0,bn,decide_true,av2,cond_false,aS,aC a1,ar,aE,az]
    ·obtain⟨b,D⟩:=mh D;obtain⟨t,F,an⟩:=od F;unfold jX at D;unfold ui at F;rw[he]at D;refine .inr ⟨c,l,O,hc,?_,?_⟩
     ·simp only[D,at0];rfl
     ·simp (disch:=omega) only[K0,F,an,jd (L,(J:Int),c,l,O) hc,bn]
   ·simp only[dN c2,cond_false];by_cases c3:L.2.1[0]=kG
    ·simp only[c3,dN (show¬kG=gy by decide),decide_true,cond_true,cond_false]
     rcases apD S Y he L M (0+1) h1 with⟨U,J,Z,ar,aE,az,ah,D,F⟩|⟨c,l,O,J,hc,ah,D,F⟩
     ·unfold jX at D;unfold ui at F;rw[he]at D;simp only[D,F,at0,so,Nb,fC];by_cases N:J<L.2.1.length
      ·refine .inr ⟨1,L.1,aG L (J+1),by decide,?_,?_⟩
       ·simp (disch:=omega) only[K0,bP 1 L M (J+1) N];rfl
       ·simp (disch:=omega) only[K0,mV L M J N,bn]
      ·refine .inl ⟨U,Z,?_,?_⟩
       ·simp (disch:=omega) only[K0]
       ·simp only[mU L J N,at0,bn,decide_true,av2,cond_false,aS,aC a1,ar,aE,az]
     ·obtain⟨b,D⟩:=mh D;obtain⟨t,F,an⟩:=od F;unfold jX at D;unfold ui at F;rw[he]at D;refine .inr ⟨c,l,O,hc,?_,?_⟩
      ·simp only[D,at0];rfl
      ·simp (disch:=omega) only[K0,F,an,jd (L,(J:Int),c,l,O) hc,bn]
    ·simp only[dN c3,cond_false];by_cases c4:L.2.1[0]=gy
     ·simp only[c4,decide_true,cond_true];rcases alw S Y he L M (0+1) h1 with⟨U,J,Z,ar,aE,az,ah,D,F⟩|⟨c,l,O,J,hc,ah,D,F⟩
      ·unfold jX at D;unfold MJ at F;rw[he]at D;simp only[D,F,at0,so,Nb,fC];by_cases N:J<L.2.1.length
       ·refine .inr ⟨1,L.1,aG L (J+1),by decide,?_,?_⟩
        ·simp (disch:=omega) only[K0,bP 1 L M (J+1) N];rfl
        ·simp (disch:=omega) only[K0,mV L M J N,bn]
       ·refine .inl ⟨U,Z,?_,?_⟩
        ·simp (disch:=omega) only[K0]
        ·simp only[mU L J N,at0,bn,decide_true,av2,cond_false,aS,aC a1,ar,aE,az]
      ·obtain⟨b,D⟩:=mh D;obtain⟨t,F,an⟩:=od F;unfold jX at D;unfold MJ at F;rw[he]at D;refine .inr ⟨c,l,O,hc,?_,?_⟩
       ·simp only[D,at0];rfl
       ·simp (disch:=omega) only[K0,F,an,jd (L,(J:Int),c,l,O) hc,bn]
     ·have hc:¬(1:Int)=0:=by decide
      have hf:=bP 1 L M (0+1) h1;have a6:=gN 1 L M (0+1) h1 (0,0) rfl;have f4:(cH S).length<=4:=(Y.cur he).kJ;refine .inr ⟨1,L.1,aG L (0+1),by decide,?_,?_⟩
      ·simp (disch:=omega) only[K0,hf];rfl
      ·simp only[dN c4,cond_false,y6,dN c2,dN c3,kJ S,ai (show ab .i64 (((cH S).length:Int)-1) by exact ba (by omega)),a6,at0,jd (L,((0+1:Nat):Int),1,L.1,aG L (0+1)) hc,bn,dN hc,aw3,cond_true,decide_true]
theorem Q3(F:Nat):∀(n:Nat) (rest:aa) (no:Nat) (out:List pw) (c l D:Nat),rest.length<=n->fi F rest no out=.bad c l D->c=1\/c=2:=by
 intro n
 induction n with
 |zero=>grind[K2]
 |succ n J=>
  intro rest no out c l D M h;by_cases e:rest=[]
  ·grind
  ·by_cases hm:F<no
   ·rw[KL _ _ _ _ e hm]at h;cases h;exact .inr rfl
   ·cases hs:nX (rest.take (al dO rest 0))with
    |bad c' L=>rw[K3 _ _ _ _ e hm hs]at h;cases h;exact Rz _ _ _ _ _ _ _ (at9 _) hs
    |ok ws cs=>rw[Lz _ _ _ _ e hm hs]at h;have h0:0<rest.length:=ay5.2 e;exact J _ _ _ _ _ _ (by grind) h
theorem QY(s:aa)(h:(iM s).2.1=0):(iM s).2=(0,0,0):=by
 unfold iM at h⊢;split
 ·grind
 ·rename_i g;rw[if_neg g]at h;cases e:fi 800 s 1 []with
  |ok ls=>rfl
  |bad c l D=>rw[e]at h;have h:(c:Int)=0:=h;rcases Q3 800 _ _ _ _ _ _ _ (at9 _) e with g2|g2<;>omega
theorem at5(s:aa)(h:¬(iM s).2.1=0):(!((decide ((iM s).2.1=0)&&(decide ((iM s).2.2.1=0)&&decide ((iM s).2.2.2=0)))))=true:=by grind
def xd(S:eC):aa×Bool×List nH×aa×Int×Int×Int×aa×Int×Int×Bool×List ep×List ep×Bool×List xg×aa×List ep×Unit:=
 (S.src,S.em,S.l.map cZ,S.n,(aO S.v).1.1,(aO S.v).1.2.1,(aO S.v).1.2.2,(aO S.v).2,(dz S.d:Int),fY S.b,S.y,S.bs.map aX,S.ns.map aX,S.em1,S.fl.map ff,S.fn,S.fns.map aX,())
def xe(ls:List aD)(S:eC):List aD×aa×Int×Int×Int×aa×Bool×List bN×aa×aa×aa×aa×Bool×List av×List av×Bool×List fk×aa×List av×Unit:=
 (ls,[],0,0,0,S.src,S.em,S.l,S.n,S.v,S.d,S.b,S.y,S.bs,S.ns,S.em1,S.fl,S.fn,S.fns,())
theorem aoR(ls:List aD)(an:∀L∈ls,bD L/\1<=L.2.1.length)(hn:ls.length<=800):∀(n i:Nat) (S:eC),ls.length-i=n->0<i->i<=ls.length->j7 S->
  (∃F,j7 F/\ae lg (mu ls i S)=some (.inl (xd F))/\ae lq (mi ls i S)=some (.inl (xe ls F)))\/
  (∃c l M:Int,¬c=0/\nd (ae lg (mu ls i S)) (bV c l M)/\ae lq (mi ls i S)=some (.inr ([],c,l,M,()))):=by
 intro n
 induction n with
 |zero=>
  intro i S Z h0 ah N;have e:i=ls.length:=by omega
  subst e;have D:lg (mu ls ls.length S)=some (.inr (.inl (xd S))):=by simp[mu,lg,xd,mi,lq,xe]
  have J:lq (mi ls ls.length S)=some (.inr (.inl (xe ls S))):=by simp[mi,lq,xe]
  exact .inl ⟨S,N,bf D,bf J⟩
 |succ n ih=>
  intro i S Z h0 ah N;have O:i<ls.length:=by omega
  obtain⟨U,h1⟩:=an _ (at2 O);rcases anr ls i O h0 hn U h1 S N with⟨F,Y,D,J⟩|⟨c,l,M,hc,D,J⟩
  ·rw[bd D,bd J];exact ih (i+1) F (by omega) (by omega) (by omega) Y
  ·obtain⟨b,D⟩:=AS D;refine .inr ⟨c,l,M,hc,?_,?_⟩
   ·rw[bI,D];rfl
   ·rw[bI,J]
abbrev kh:=aa×List bN
abbrev aft:=aa×List nH
def gZ(x:kh):aft:=(x.1,x.2.map cZ)
structure Gf(x:kh):Prop where
 src:bQ x.1=true
 dp:∀e∈x.2,dM e
 many:x.2.length<=60
 once:(x.2.map λe=>(e.1,e.2.1)).Nodup
theorem amF(s:aa):(∃x,Gf x/\zL s=some (x,(0,0,0))/\rJ s=some (gZ x,(0,0,0)))\/(∃c l J:Int,¬c=0/\zL s=some (([],[]),(c,l,J))/\rJ s=some (([],[]),(c,l,J))):=by
 obtain⟨U,Y⟩:=QF s;by_cases h0:(iM s).2.1=0
 ·have Z:=QY s h0;have ah:=zk s;have an:=yZ s;generalize iM s=R at U Y h0 Z ah an;obtain⟨ls,f⟩:=R;have Z:f=(0,0,0):=Z;subst Z;have U:∀L∈ls,bD L/\1<=L.2.1.length:=U;have Y:ls.length<=800:=Y
  have hE:(∃F,j7 F/\ae lg (mu ls 0 S0)=some (.inl (xd F))/\ae lq (mi ls 0 S0)=some (.inl (xe ls F)))\/
    (∃c l J:Int,¬c=0/\nd (ae lg (mu ls 0 S0)) (bV c l J)/\ae lq (mi ls 0 S0)=some (.inr ([],c,l,J,())))\/
    (ls=[]/\ae lg (mu ls 0 S0)=some (.inl (xd S0))/\ae lq (mi ls 0 S0)=some (.inl (xe ls S0))):=by
   by_cases O:0<ls.length
   ·obtain⟨hL,h1⟩:=U _ (at2 O);rcases alY ls O Y hL h1 with⟨F,N,D,M⟩|⟨c,l,J,hc,D,M⟩
    ·rw[bd D,bd M];rcases aoR ls U Y _ 1 F rfl (by decide) O N with h|h
     ·exact .inl h
     ·exact .inr (.inl h)
    ·obtain⟨b,D⟩:=AS D;refine .inr (.inl ⟨c,l,J,hc,?_,bf M⟩);rw[bf D];rfl
   ·have e:ls=[]:=az2.1 (by omega)
    subst e;exact .inr (.inr ⟨rfl,bf rfl,bf rfl⟩)
  unfold zL rJ PY;simp only[ah,an,at0,decide_true,av2,cond_false,aC6];have q1:∀{a b},ae lg (mu ls 0 S0)=a->a=b->ae lg (ls,(ls.length:Int),0,[],true,[],[],0,0,0,[],0,0,false,[],[],true,[],[],[],())=b:=λh1 h2=>h2▸h1;have q2:∀{a b},ae lq (mi ls 0 S0)=a->a=b->ae lq (ls,0,[],0,0,0,[],true,[],[],[],[],[],false,[],[],true,[],[],[],())=b:=λh1 h2=>h2▸h1;rcases hE with⟨F,N,D,M⟩|⟨c,l,J,hc,D,M⟩|⟨e,D,M⟩
  ·have O:¬(ls.length:Int)=0:=by
     intro g;have:ls=[]:=az2.1 (by omega)
     subst this;have:=D.symm.trans (bf (f:=lg) (v:=mu [] 0 S0) (r:=.inl (xd S0)) rfl);injection this with this;injection this with this;have h9:F.src=[]:=congrArg Prod.fst this;exact Sg N.src h9
   refine .inl ⟨(F.src,eo F),⟨N.src,N.dp,N.many,N.once⟩,?_,?_⟩
   ·rw[q2 M rfl];simp only[xe,at0,dN O,cond_false];rfl
   ·rw[q1 D rfl];simp only[xd,at0,decide_true,aC6,av2,cond_false,dN (Sg N.src),TW F,adf F];rfl
  ·obtain⟨b,D⟩:=mh D;refine .inr ⟨c,l,J,hc,?_,?_⟩
   ·rw[q2 M rfl];rfl
   ·rw[q1 D rfl];obtain⟨b1,b2,b3,b4,b5,b6,b7,b8⟩:=b;have ar:pe (bV c l J)=some (c,l,J):=rfl;simp only[at0,ar,dN hc,aA6,aw3,cond_true]
  ·subst e;refine .inr ⟨1,0,0,by decide,?_,?_⟩
   ·rw[q2 M rfl];rfl
   ·rw[q1 D rfl];rfl
 ·grind[zL,rJ,zk,yZ]
structure bZ(l:List av):Prop where
 many:l.length<=8
 eF:∀n∈l,wU 4 n
def lI(ls:List aD)(i:Nat)(b:Bool)(l:List av):List aD×Int×Int×Bool×List ep×Unit:=(ls,(ls.length:Int),(i:Int),b,l.map aX,())
def lF(ls:List aD)(i:Nat)(l:List av):List aD×Int×Int×Int×Int×List av×Unit:=(ls,(i:Int),0,0,0,l,())
theorem arb(ls:List aD)(h0:0<ls.length)(hn:ls.length<=800)(D:bD ls[0])(h1:1<=(ls[0]).2.1.length):
  (kv (lI ls 0 false [])=some (.inl (lI ls 1 true []))/\kz (lF ls 0 [])=some (.inl (lF ls 1 [])))\/
  (∃c l J:Int,¬c=0/\xh (kv (lI ls 0 false [])) (bV c l J)/\kz (lF ls 0 [])=some (.inr (.inr (c,l,J,())))):=by
 have M:∀{R:Type} (f:aD->Option R),(ag ls ((0:Nat))).bind f=f ls[0]:=λf=>aI (k:=0) h0 f;generalize ah:ls[0]=L at D h1 M;have U:dS (L,0)=_:=me L D 0 h1;have Y:jz (L,0,0,0,0)=_:=qq L D 0 (0,0) h1;have Z:=D.2.1;unfold lI lF;simp only[kv,kz,dY (show(0:Nat)<(ls.length:Int) by omega),M,Y,dY (show((0:Nat):Int)=0 by rfl),dN (show¬0<((0:Nat):Int) by decide),cond_false,Jk,U,aw3]
 by_cases O:L.2.1[0]=Q2
 ·simp (disch:=omega) only[K0,fC];by_cases F:0+1<L.2.1.length
  ·refine .inr ⟨1,L.1,aG L (0+1+1),by decide,?_,?_⟩
   ·simp (disch:=omega) only[K0,bP 1 L D (0+1+1) F];rfl
   ·simp (disch:=omega) only[K0,mV L D (0+1) F,bn]
  ·refine .inl ⟨?_,?_⟩
   ·simp (disch:=omega) only[K0,bn]
   ·simp only[mU L (0+1) F,at0,bn,decide_true,av2,cond_false]
 ·have hc:¬(1:Int)=0:=by decide
  have hf:=bP 1 L D (0+1) h1;have N:=gN 1 L D (0+1) h1 (0,0) rfl;refine .inr ⟨1,L.1,aG L (0+1),by decide,?_,?_⟩
  ·simp (disch:=omega) only[K0,hf];rfl
  ·simp only[dN O,aw3,cond_true,N,at0,jd (L,((0+1:Nat):Int),1,L.1,aG L (0+1)) hc,bn,dN hc]
theorem ase(ls:List aD)(i:Nat)(hi:i<ls.length)(h0:0<i)(hn:ls.length<=800)(D:bD ls[i])(h1:1<=(ls[i]).2.1.length)(l:List av)(hl:bZ l):
  (∃U,bZ U/\kv (lI ls i true l)=some (.inl (lI ls (i+1) true U))/\kz (lF ls i l)=some (.inl (lF ls (i+1) U)))\/
  (∃c li N:Int,¬c=0/\xh (kv (lI ls i true l)) (bV c li N)/\kz (lF ls i l)=some (.inr (.inr (c,li,N,())))):=by
 have Z:∀{R:Type} (f:aD->Option R),(ag ls (i:Int)).bind f=f ls[i]:=λf=>aI hi f;generalize a6:ls[i]=L at D h1 Z;have az:dS (L,0)=_:=me L D 0 h1;have aE:jz (L,0,0,0,0)=_:=qq L D 0 (0,0) h1;have a1:=D.2.1;have h8:=hl.many;have Y:i+1<=4611686018427387904:=by omega
 unfold lI lF;simp only[kv,kz,dY (show(i:Int)<(ls.length:Int) by omega),cond_true,Z,aE,at0,dN (show¬(i:Int)=0 by omega),cond_false,dY (show(0:Int)<(i:Int) by omega),Jk,az,av2]
 by_cases c1:L.2.1[0]=pg
 ·simp only[dY c1,av2,cond_false,au1,mQ _ _ L D (0+1) h1,at0];by_cases c8:l.length=8
  ·have hc:¬(2:Int)=0:=by decide
   refine .inr ⟨2,L.1,aG L (0+1),by decide,?_,?_⟩
   ·simp only[dY (show(l.length:Int)=8 by omega),cond_true,bP 2 L D (0+1) h1,at0];rfl
   ·simp only[if_pos (show(8:Int)<=(l.length:Int) by omega),wJ _ (L,((0+1:Nat):Int),2,L.1,aG L (0+1)) hc,at0]
    rw[ai (by simp only[av1,ay2];omega)]
    simp only[jd (L,((0+1:Nat):Int),2,L.1,aG L (0+1)) hc,at0,bn,dN hc,aw3,cond_true]
  ·simp only[dN (show¬(l.length:Int)=8 by omega),cond_false,if_neg (show¬(8:Int)<=(l.length:Int) by omega)]
   rcases MV 4 (by decide) L (0+1) D h1 with⟨n,F,an,ar,M,J⟩|⟨c,li,N,F,n,hc,an,M,J⟩
   ·have M:jS 4 (L,((0+1:Nat):Int))=_:=M;have J:fx 4 (L,((0+1:Nat):Int),0,0,0)=_:=J;simp only[M,J,at0];rw[ai (show l.length+[n].length<=1000000000 by simp only[av1,ay2];omega),ai (show l.length+[aX n].length<=1000000000 by simp only[av1,ay2];omega)]
    simp only[fC,at0];by_cases O:F<L.2.1.length
    ·refine .inr ⟨1,L.1,aG L (F+1),by decide,?_,?_⟩
     ·simp only[dY O,cond_true,aS,aC (show F+1<=4611686018427387904 by omega),bP 1 L D (F+1) O,at0];rfl
     ·simp only[mV L D F O,at0,bn,dN (show¬(1:Int)=0 by decide),aw3,cond_true]
    ·refine .inl ⟨l++[n],⟨by simp;omega,lu hl.eF ar⟩,?_,?_⟩
     ·simp only[dN O,cond_false,aS,aC Y,aw1];rfl
     ·simp only[mU L F O,at0,bn,decide_true,av2,cond_false,aS,aC Y]
   ·have M:jS 4 (L,((0+1:Nat):Int))=_:=M;have J:fx 4 (L,((0+1:Nat):Int),0,0,0)=_:=J;refine .inr ⟨c,li,N,hc,?_,?_⟩
    ·simp only[M,at0];rfl
    ·simp only[J,at0];rw[ai (by simp only[av1,ay2];omega)]
     simp only[jd (L,(F:Int),c,li,N) hc,at0,bn,dN hc,aw3,cond_true]
 ·have hc:¬(1:Int)=0:=by decide
  have hf:=bP 1 L D (0+1) h1;have ah:=gN 1 L D (0+1) h1 (0,0) rfl;refine .inr ⟨1,L.1,aG L (0+1),by decide,?_,?_⟩
  ·simp only[dN c1,aw3,cond_true,hf,at0];rfl
  ·simp only[dN c1,aw3,cond_true,ah,at0,Ff _ _ (L,((0+1:Nat):Int),1,L.1,aG L (0+1)) hc,wJ _ (L,((0+1:Nat):Int),1,L.1,aG L (0+1)) hc];rw[ai (by simp only[av1,ay2];omega)]
   simp only[jd (L,((0+1:Nat):Int),1,L.1,aG L (0+1)) hc,at0,bn,dN hc,aw3,cond_true]
theorem asR(ls:List aD)(an:∀L∈ls,bD L/\1<=L.2.1.length)(hn:ls.length<=800):∀(n i:Nat) (l:List av),ls.length-i=n->0<i->i<=ls.length->bZ l->
  (∃J,bZ J/\ae kv (lI ls i true l)=some (.inl (true,J.map aX,()))/\ae kz (lF ls i l)=some (.inl (ls,0,0,0,J,())))\/
  (∃c li M:Int,¬c=0/\nd (ae kv (lI ls i true l)) (bV c li M)/\ae kz (lF ls i l)=some (.inr (c,li,M,()))):=by
 intro n
 induction n with
 |zero=>
  intro i l Y h0 Z N;have e:i=ls.length:=by omega
  subst e;have D:kv (lI ls ls.length true l)=some (.inr (.inl (true,l.map aX,()))):=by simp[lI,kv]
  have F:kz (lF ls ls.length l)=some (.inr (.inl (ls,0,0,0,l,()))):=by simp[lF,kz]
  exact .inl ⟨l,N,bf D,bf F⟩
 |succ n ih=>
  intro i l Y h0 Z N;have O:i<ls.length:=by omega
  obtain⟨U,h1⟩:=an _ (at2 O);rcases ase ls i O h0 hn U h1 l N with⟨J,ah,D,F⟩|⟨c,li,M,hc,D,F⟩
  ·rw[bd D,bd F];exact ih (i+1) J (by omega) (by simp) (by omega) ah
  ·obtain⟨b,D⟩:=AS D;refine .inr ⟨c,li,M,hc,?_,bf F⟩;rw[bf D];rfl
theorem Xu(s:aa):(∃l,bZ l/\zJ s=some (l,(0,0,0))/\yU s=some (l.map aX,(0,0,0)))\/(∃c li D:Int,¬c=0/\zJ s=some ([],(c,li,D))/\yU s=some ([],(c,li,D))):=by
 obtain⟨O,U⟩:=QF s;by_cases h0:(iM s).2.1=0
 ·have Y:=QY s h0;have Z:=zk s;have ah:=yZ s;generalize iM s=R at O U h0 Y Z ah;obtain⟨ls,f⟩:=R;have Y:f=(0,0,0):=Y;subst Y;have O:∀L∈ls,bD L/\1<=L.2.1.length:=O;have U:ls.length<=800:=U
  have hE:(∃J,bZ J/\0<ls.length/\ae kv (lI ls 0 false [])=some (.inl (true,J.map aX,()))/\ae kz (lF ls 0 [])=some (.inl (ls,0,0,0,J,())))\/
    (∃c li D:Int,¬c=0/\nd (ae kv (lI ls 0 false [])) (bV c li D)/\ae kz (lF ls 0 [])=some (.inr (c,li,D,())))\/ls=[]:=by
   by_cases N:0<ls.length
   ·obtain⟨hL,h1⟩:=O _ (at2 N);rcases arb ls N U hL h1 with⟨F,M⟩|⟨c,l,D,hc,F,M⟩
    ·rw[bd F,bd M];rcases asR ls O U _ 1 [] rfl (by omega) N ⟨au2 _,λn h=>by cases h⟩with⟨J,h1,h2,h3⟩|h
     ·exact .inl ⟨J,h1,N,h2,h3⟩
     ·exact .inr (.inl h)
    ·obtain⟨b,F⟩:=AS F;refine .inr (.inl ⟨c,l,D,hc,?_,bf M⟩);rw[bf F];rfl
   ·exact .inr (.inr (az2.1 (by omega)))
  unfold zJ yU PR;simp only[Z,ah,at0,decide_true,av2,aC6];have q1:∀{a},ae kv (lI ls 0 false [])=a->ae kv (ls,ls.length,0,false,[],())=a:=λh=>h;have q2:∀{a},ae kz (lF ls 0 [])=a->ae kz (ls,0,0,0,0,[],())=a:=λh=>h;rcases hE with⟨J,ar,N,F,M⟩|⟨c,l,D,hc,F,M⟩|e
  ·grind
  ·obtain⟨b,F⟩:=mh F;refine .inr ⟨c,l,D,hc,?_,?_⟩
   ·grind
   ·rw[q1 F];obtain⟨b1,b2,b3⟩:=b;have an:pe (bV c l D)=some (c,l,D):=rfl;simp only[at0,an,dN hc,aA6,aw3,cond_true,cond_false]
  ·subst e;refine .inr ⟨1,0,0,by decide,?_,?_⟩
   ·rw[show ae kz ([],0,0,0,0,[],())=some (.inl ([],0,0,0,[],())) from bf rfl];rfl
   ·rw[show ae kv ([],([].length),0,false,[],())=some (.inl (false,[],())) from bf rfl];rfl
 ·grind[zJ,yU,zk,yZ]
theorem YM(b:Nat)(h:b<18446744073709551616):bits .and .u64 ((b:Int).fdiv (2^(min (52:Int).toNat (av9 .u64)))) 2047=((b/4503599627370496 %2048:Nat):Int)/\bits .and .u64 (b:Int) 4503599627370495=((b %4503599627370496:Nat):Int)/\(b:Int).fdiv (2^(min (63:Int).toNat (av9 .u64)))=((b/9223372036854775808:Nat):Int):=by
 have D:(2:Int)^(min (52:Int).toNat (av9 .u64))=4503599627370496:=by rfl
 rw[D];have f1:(b:Int).fdiv 4503599627370496=(b/4503599627370496:Nat):=by rw[Int.fdiv_eq_ediv_of_nonneg _ (by simp)];omega
 have f2:(b:Int).fdiv 9223372036854775808=(b/9223372036854775808):=by grind
 refine⟨?_,?_,f2⟩
 ·rw[f1,u64_and _ _ (by omega) (by omega) (by simp) (by simp)]
  exact congrArg _ (aI1 _ 11)
 ·rw[u64_and _ _ (by simp) (by omega) (by simp) (by simp)]
  exact congrArg _ (aI1 _ 52)
theorem X3(b:Nat)(h:b<18446744073709551616):∃k,Fs (b:Int)=some k/\(k=0<->qW b=true):=by
 obtain⟨h1,h2,J⟩:=YM b h;have L:qW b=true<->(((b/4503599627370496 %2048:Nat):Int)=2047/\¬((b %4503599627370496:Nat):Int)=0):=by unfold qW;simp only[au0,decide_eq_true_eq,ay6,decide_eq_false_iff_not];omega
 rw[L];unfold Fs;rw[ai (by decide),ai (by decide)]
 simp only[h1,h2,J];generalize((b/4503599627370496 %2048:Nat):Int)=p;generalize((b %4503599627370496:Nat):Int)=r;generalize((b/9223372036854775808:Nat):Int)=s;by_cases c1:p=2047
 ·subst c1;by_cases c2:r=0
  ·by_cases D:s=1
   ·simp_all
   ·simp_all
  ·simp_all
 ·by_cases F:p=0
  ·by_cases c2:r=0
   ·by_cases D:s=1
    ·simp_all
    ·simp only[dN c1,dY c2,dN D,dY F,cond_true,cond_false];exact⟨_,rfl,by simp [c1]⟩
   ·by_cases D:s=1
    ·simp_all
    ·simp only[dN c1,dN c2,dN D,dY F,cond_true,cond_false];exact⟨_,rfl,by simp [c1]⟩
  ·by_cases D:s=1
   ·simp_all
   ·simp only[dN c1,dN D,dN F,cond_true,cond_false];exact⟨_,rfl,by simp [c1]⟩
theorem aq6(b:Nat)(h:b<18446744073709551616):bits .xor .u64 IntKind.u64.max (b:Int)=((18446744073709551615-b:Nat):Int):=by
 have D:IntKind.u64.max=(18446744073709551615:Nat):=by rfl
 rw[D,u64_xor_nat _ _ (by simp) h]
 congr 1;apply Nat.eq_of_testBit_eq;intro i;have F:18446744073709551615=2^64-1:=by decide
 rw[Nat.testBit_xor,F,Nat.testBit_two_pow_sub_one,show 2^64-1-b=2^64-(b+1) from by omega,aI4 (by omega)]
 by_cases J:i<64
 ·grind
 ·have:b.testBit i=false:=Nat.testBit_lt_two_pow (aA5 h (show 2^64<=2^i from aA8 (by simp) (by omega)))
  grind
theorem YE(b:Nat)(h:b<18446744073709551616):FD (b:Int)=some ((fc b:Nat):Int):=by
 obtain⟨k,h1,h2⟩:=X3 b h;obtain⟨_,_,D⟩:=YM b h;unfold FD fc;rw[h1,at0];cases J:qW b with
 |true=>grind
 |false=>
  rw[dN (by grind)]
  simp (disch:=omega) only[K0,D,Nat.or_comm];by_cases c:9223372036854775808<=b
  ·rw[dY (show((b/9223372036854775808:Nat):Int)=1 by omega),if_pos c]
   simp only[cond_true];exact congrArg some (aq6 b h)
  ·rw[dN (show¬((b/9223372036854775808:Nat):Int)=1 by omega)]
   simp only[cond_false];rw[u64_or _ _ (by simp) (by omega) (by simp) (by simp)]
   have F:b|||1<<<63=1<<<63+b:=by rw[Nat.or_comm,Nat.shiftLeft_add_eq_or_of_lt (by omega)]
   grind
def j6(a b:Nat):Int:=if fc a<fc b then-1 else if fc b<fc a then 1 else 0
theorem ai2(a b:Nat)(D:a<18446744073709551616)(F:b<18446744073709551616):Kt (a:Int) (b:Int)=some (j6 a b):=by
 unfold Kt j6;simp only[YE a D,YE b F];by_cases c1:fc a<fc b
 ·grind
 ·grind
def xp(b:Nat):aa:=(aA2 16).map λi=>uJ (b/16^(15-i)%16)
def AZ(b:Nat):aa:=if qW b=true then WU else xp b
theorem amo(b:Nat)(h:b<18446744073709551616):Ak (b:Int)=some (xp b):=by grind[Ak,xp]
theorem X2(b:Nat)(h:b<18446744073709551616):zY (b:Int)=some (AZ b):=by
 obtain⟨k,h1,h2⟩:=X3 b h;have D:=amo b h;unfold zY AZ;simp only[h1];cases F:qW b with
 |true=>grind
 |false=>grind
theorem FG(s:aa)(h:s.length<=16)(D:s.all eM=true):dz s<18446744073709551616:=by
 have:∀(s:aa) n,s.all eM=true->s.foldl dn n<(n+1)*16^s.length:=by
  intro s
  induction s with
  |nil=>grind
  |cons c t F=>intro n D;rw[ay4,au0]at D;have h1:=F (dn n c) D.2;have h2:gV c.toNat<16:=of_decide_eq_true D.1;show t.foldl dn (dn n c)<_;refine aA5 h1 ?_;rw[av1,aC0,aB5 (16^t.length) 16,<-Nat.mul_assoc];exact az8 _ (by unfold dn;omega)
 have h1:=this s 0 D;rw[Tp];refine aA5 h1 ?_;have:(0+1)*16^s.length<=1*16^16:=aE2 _ (aA8 (by simp) h)
 omega
theorem tM{V R α β:Type}{f:V->Option (V⊕R)}(l:List α)(e:α->List β)(st:Nat->List β->V)(out:List β->R)
  (h1:∀k (hk:k<l.length),f (st k ((l.take k).flatMap e))=some (.inl (st (k+1) ((l.take k).flatMap e++e l[k]))))
  (h2:f (st l.length (l.flatMap e))=some (.inr (out (l.flatMap e)))):ae f (st 0 [])=some (out (l.flatMap e)):=by
 have:∀n k,l.length-k=n->k<=l.length->ae f (st k ((l.take k).flatMap e))=some (out (l.flatMap e)):=by
  intro n
  induction n with
  |zero=>
   intro k J hk;have D:k=l.length:=by omega
   subst D;rw[ax6];exact bf h2
  |succ n L=>
   intro k J hk;have F:k<l.length:=by omega
   rw[bd (h1 k F)];have D:(l.take (k+1)).flatMap e=(l.take k).flatMap e++e l[k]:=by rw[az5 F,List.flatMap_append];simp
   grind
 exact this _ 0 rfl (au2 _)
theorem tL{V R α β:Type}{f:V->Option (V⊕R)}(l:List α)(h:α->β)(st:Nat->List β->V)(out:List β->R)
  (h1:∀k (hk:k<l.length) (acc:List β),acc.length=k->f (st k acc)=some (.inl (st (k+1) (acc++[h l[k]]))))
  (h2:f (st l.length (l.map h))=some (.inr (out (l.map h)))):ae f (st 0 [])=some (out (l.map h)):=by
 have:∀n k,l.length-k=n->k<=l.length->ae f (st k ((l.take k).map h))=some (out (l.map h)):=by
  intro n
  induction n with
  |zero=>
   intro k J hk;have D:k=l.length:=by omega
   subst D;rw[ax6];exact bf h2
  |succ n L=>
   intro k J hk;have F:k<l.length:=by omega
   rw[bd (h1 k F ((l.take k).map h) (by grind))]
   have D:(l.take (k+1)).map h=(l.take k).map h++[h l[k]]:=by rw[az5 F,aw1];rfl
   grind
 exact this _ 0 rfl (au2 _)
theorem Af{α:Type}(l:List α)(p:α->Bool)(i:Decidable (bC l p<0)): @decide (bC l p<0) i= !l.any p:=by
 rcases kD l p with⟨h1,h2⟩|⟨k,_,_,h2,_,h1⟩
 ·grind
 ·grind
theorem wg{α:Type}(l:List α)(f:α->aa)(s:aa):(l.any λx=>decide (f x=s))=cE (l.map f) s:=by grind[cE]
theorem LW(l:ak)(v:aa)(D:l.length<=1000000):mL l v=some (bC l λx=>decide (x=v)):=by
 have h:=jc (f:=oS) l (λx=>decide (x=v)) (λk=>(l,v,l.length,k,())) (λk=>au8 (k,())) (au6 ()) (λk h hp=>by
  have hp:¬v=l[k]:=λe=>of_decide_eq_false hp e.symm;simp (disch:=omega) only[K0,oS]) (λk h hp=>by
  have hp:=(of_decide_eq_true hp).symm;simp (disch:=omega) only[K0,oS]) (by
  simp[oS])
 grind[mL,bC]
theorem XQ(l:List Int)(v:Int)(D:l.length<=1000000):yy l v=some (l.any λx=>decide (x=v)):=by
 have h:=jc (f:=CQ) l (λx=>decide (x=v)) (λk=>(l,v,l.length,k,())) (λk=>au8 (k,())) (au6 ()) (λk h hp=>by
  have hp:¬v=l[k]:=λe=>of_decide_eq_false hp e.symm;simp (disch:=omega) only[K0,CQ]) (λk h hp=>by
  have hp:=(of_decide_eq_true hp).symm;simp (disch:=omega) only[K0,CQ]) (by
  simp[CQ])
 simp_all[yy,P4];rw[<-pb l (λx=>decide (x=v)) inferInstance];unfold bC;cases l.findIdx? (λx=>decide (x=v))<;>rfl
theorem QC(l:List (aa×Nat×Bool))(s:aa)(D:l.length<=1000000):yn l s=some (bC l λx=>decide (x.1=s)):=by
 have h:=jc (f:=Cw) l (λx=>decide (x.1=s)) (λk=>(l,l.length,k,s,())) (λk=>au8 (k,s,())) (au6 (s,())) (λk h hp=>by
  have hp:=of_decide_eq_false hp;simp (disch:=omega) only[K0,Cw,IM,Jp]) (λk h hp=>by
  have hp:=of_decide_eq_true hp;simp (disch:=omega) only[K0,Cw,IM,Jp]) (by
  simp[Cw])
 unfold yn Pk bC;grind
theorem ajn(l:List (aa×Nat×Bool))(s:aa)(F:l.length<=1000000)(L:aD)(D:bD L)(k:Nat)(hk:k<=L.2.1.length):
  Ix s (L,(k:Int)) l=some (if cE (l.map (·.1)) s=true then .inr (bV 3 L.1 (aG L k),l,())else .inl (s,(L,(k:Int)),l,())):=by
 unfold Ix;simp[QC l s F,pb,wg];cases cE (l.map (·.1)) s with
 |true=>simp[bP 3 L D k hk]
 |false=>rfl
theorem akS(l:List (aa×Nat×Bool))(m:Nat)(L:aD)(D:bD L)(k:Nat)(hk:k<=L.2.1.length):
  C3 (m:Int) (L,(k:Int)) l=some (if l.length=m then .inr (bV 2 L.1 (aG L k),l,())else .inl ((L,(k:Int)),l,())):=by
 unfold C3;by_cases h:l.length=m
 ·simp (disch:=omega) only[K0,bP 2 L D k hk]
 ·grind
theorem alh(l:List (aa×Int×ak))(s:aa)(D:l.length<=1000000):IB l s=some (bC l λx=>decide (x.1=s)):=by
 have h:=jc (f:=Cz) l (λx=>decide (x.1=s)) (λk=>(l,l.length,k,s,())) (λk=>au8 (k,s,())) (au6 (s,())) (λk h hp=>by
  have hp:=of_decide_eq_false hp;simp (disch:=omega) only[K0,Cz,IN,Jz]) (λk h hp=>by
  have hp:=of_decide_eq_true hp;simp (disch:=omega) only[K0,Cz,IN,Jz]) (by
  simp[Cz])
 unfold IB Pm bC;grind
theorem aj3(l:List (aa×Int×ak))(s:aa)(F:l.length<=1000000)(L:aD)(D:bD L)(k:Nat)(hk:k<=L.2.1.length):
  Iz s (L,(k:Int)) l=some (if cE (l.map (·.1)) s=true then .inr (bV 3 L.1 (aG L k),l,())else .inl (s,(L,(k:Int)),l,())):=by
 unfold Iz;simp[alh l s F,pb,wg];cases cE (l.map (·.1)) s with
 |true=>simp[bP 3 L D k hk]
 |false=>rfl
theorem amc(l:List (aa×Int×ak))(m:Nat)(L:aD)(D:bD L)(k:Nat)(hk:k<=L.2.1.length):
  C9 (m:Int) (L,(k:Int)) l=some (if l.length=m then .inr (bV 2 L.1 (aG L k),l,())else .inl ((L,(k:Int)),l,())):=by
 unfold C9;by_cases h:l.length=m
 ·simp (disch:=omega) only[K0,bP 2 L D k hk]
 ·grind
theorem Zh(l:List (aa×cN))(s:aa)(D:l.length<=1000000):yu l s=some (bC l λx=>decide (x.1=s)):=by
 have h:=jc (f:=CC) l (λx=>decide (x.1=s)) (λk=>(l,l.length,k,s,())) (λk=>au8 (k,s,())) (au6 (s,())) (λk h hp=>by
  have hp:=of_decide_eq_false hp;simp (disch:=omega) only[K0,CC,IV,JR]) (λk h hp=>by
  have hp:=of_decide_eq_true hp;simp (disch:=omega) only[K0,CC,IV,JR]) (by
  simp[CC])
 unfold yu Pz bC;grind
theorem alT(l:List (aa×cN))(s:aa)(F:l.length<=1000000)(L:aD)(D:bD L)(k:Nat)(hk:k<=L.2.1.length):
  IF s (L,(k:Int)) l=some (if cE (l.map (·.1)) s=true then .inr (bV 3 L.1 (aG L k),l,())else .inl (s,(L,(k:Int)),l,())):=by
 unfold IF;simp[Zh l s F,pb,wg];cases cE (l.map (·.1)) s with
 |true=>simp[bP 3 L D k hk]
 |false=>rfl
theorem apd(l:List (aa×cN))(m:Nat)(L:aD)(D:bD L)(k:Nat)(hk:k<=L.2.1.length):
  Dl (m:Int) (L,(k:Int)) l=some (if l.length=m then .inr (bV 2 L.1 (aG L k),l,())else .inl ((L,(k:Int)),l,())):=by
 unfold Dl;by_cases h:l.length=m
 ·simp (disch:=omega) only[K0,bP 2 L D k hk]
 ·grind
theorem YG(l:List (aa×List Int))(s:aa)(D:l.length<=1000000):yr l s=some (bC l λx=>decide (x.1=s)):=by
 have h:=jc (f:=CA) l (λx=>decide (x.1=s)) (λk=>(l,l.length,k,s,())) (λk=>au8 (k,s,())) (au6 (s,())) (λk h hp=>by
  have hp:=of_decide_eq_false hp;simp (disch:=omega) only[K0,CA,IS,JI]) (λk h hp=>by
  have hp:=of_decide_eq_true hp;simp (disch:=omega) only[K0,CA,IS,JI]) (by
  simp[CA])
 unfold yr Pt bC;grind
theorem akH(l:List (aa×List Int))(s:aa)(F:l.length<=1000000)(L:aD)(D:bD L)(k:Nat)(hk:k<=L.2.1.length):
  ID s (L,(k:Int)) l=some (if cE (l.map (·.1)) s=true then .inr (bV 3 L.1 (aG L k),l,())else .inl (s,(L,(k:Int)),l,())):=by
 unfold ID;simp[YG l s F,pb,wg];cases cE (l.map (·.1)) s with
 |true=>simp[bP 3 L D k hk]
 |false=>rfl
theorem anE(l:List (aa×List Int))(m:Nat)(L:aD)(D:bD L)(k:Nat)(hk:k<=L.2.1.length):
  Dd (m:Int) (L,(k:Int)) l=some (if l.length=m then .inr (bV 2 L.1 (aG L k),l,())else .inl ((L,(k:Int)),l,())):=by
 unfold Dd;by_cases h:l.length=m
 ·simp (disch:=omega) only[K0,bP 2 L D k hk]
 ·grind
theorem XK(l:List (aa×Int))(s:aa)(D:l.length<=1000000):ym l s=some (bC l λx=>decide (x.1=s)):=by
 have h:=jc (f:=Cv) l (λx=>decide (x.1=s)) (λk=>(l,l.length,k,s,())) (λk=>au8 (k,s,())) (au6 (s,())) (λk h hp=>by
  have hp:=of_decide_eq_false hp;simp (disch:=omega) only[K0,Cv,IL,Jo]) (λk h hp=>by
  have hp:=of_decide_eq_true hp;simp (disch:=omega) only[K0,Cv,IL,Jo]) (by
  simp[Cv])
 unfold ym Pj bC;grind
theorem ajm(l:List (aa×Int))(s:aa)(F:l.length<=1000000)(L:aD)(D:bD L)(k:Nat)(hk:k<=L.2.1.length):
  Iw s (L,(k:Int)) l=some (if cE (l.map (·.1)) s=true then .inr (bV 3 L.1 (aG L k),l,())else .inl (s,(L,(k:Int)),l,())):=by
 unfold Iw;simp[XK l s F,pb,wg];cases cE (l.map (·.1)) s with
 |true=>simp[bP 3 L D k hk]
 |false=>rfl
theorem akR(l:List (aa×Int))(m:Nat)(L:aD)(D:bD L)(k:Nat)(hk:k<=L.2.1.length):
  C2 (m:Int) (L,(k:Int)) l=some (if l.length=m then .inr (bV 2 L.1 (aG L k),l,())else .inl ((L,(k:Int)),l,())):=by
 unfold C2;by_cases h:l.length=m
 ·simp (disch:=omega) only[K0,bP 2 L D k hk]
 ·grind
theorem akT(l:List Int)(m:Nat)(L:aD)(D:bD L)(k:Nat)(hk:k<=L.2.1.length):
  C4 (m:Int) (L,(k:Int)) l=some (if l.length=m then .inr (bV 2 L.1 (aG L k),l,())else .inl ((L,(k:Int)),l,())):=by
 unfold C4;by_cases h:l.length=m
 ·simp (disch:=omega) only[K0,bP 2 L D k hk]
 ·grind
theorem ahq(l:List (aa×aa×aa))(D:List (aa×aa×ak))(F:List (aa×aa))(J:List (aa×ak))(L:List (aa×aa))(N:l.length<=1000):Jw l D F J L=some (l.map (·.1),l,D,F,J,L):=by
 have h:=tL (f:=Jg) l (λx=>x.1) (λk acc=>(k,acc,l,D,F,J,L,())) (λacc=>(acc,l,D,F,J,L,())) (λk hk acc M=>by
  simp[Jg];simp (disch:=omega) only[K0]) (by
  simp[Jg])
 grind[Jw]
theorem ahr(l:List (aa×aa×aa))(D:List (aa×aa×ak))(F:List (aa×aa))(J:List (aa×ak))(L:List (aa×aa))(N:D.length<=1000):Jx l D F J L=some (D.map (·.1),l,D,F,J,L):=by
 have h:=tL (f:=Jh) D (λx=>x.1) (λk acc=>(k,acc,l,D,F,J,L,())) (λacc=>(acc,l,D,F,J,L,())) (λk hk acc M=>by
  simp[Jh];simp (disch:=omega) only[K0]) (by
  simp[Jh])
 grind[Jx]
theorem Xn(l:List (aa×aa))(F:l.length<=1000):Er l=some (l.map (·.1),l):=by
 have h:=tL (f:=Ka) l (λx=>x.1) (λk acc=>(k,acc,l,())) (λacc=>(acc,l,())) (λk hk acc D=>by
  simp[Ka];simp (disch:=omega) only[K0]) (by
  simp[Ka])
 grind[Er]
theorem ake(l:List (aa×ak))(F:l.length<=1000):K8 l=some (l.map (·.1),l):=by
 have h:=tL (f:=Ko) l (λx=>x.1) (λk acc=>(k,acc,l,())) (λacc=>(acc,l,())) (λk hk acc D=>by
  simp[Ko];simp (disch:=omega) only[K0]) (by
  simp[Ko])
 grind[K8]
theorem jf{R:Type}{k:Option R}:J True k=k:=rfl
theorem Mb(l:ak)(o:gT)(h:¬o.2.2.1=0):lA l o=some ([],o):=by unfold lA;simp (disch:=omega) only[K0,ZZ o h,bn]
theorem E8(kind:Int)(l:ak)(o:gT)(h:¬o.2.2.1=0):kA kind l o=some ([],o):=by unfold kA;simp (disch:=omega) only[K0,jb kind o h,bn]
def VT{β:Type}(T:aD×Int->Option ((β×(aD×Int)×Unit)⊕(Value×Unit)))(l:ak)(val:aa->β):Prop:=
 ∀(L:aD) (k:Nat),bD L->k<=L.2.1.length->
  (∃h:k<L.2.1.length,L.2.1[k]∈l/\T (L,(k:Int))=some (.inl (val (L.2.1[k]),(L,((k+1:Nat):Int)),()))/\lA l (L,(k:Int),0,0,0)=some (L.2.1[k],(L,((k+1:Nat):Int),0,0,0)))\/
  (∃(c li D:Int) (F:Nat) (w:aa),¬c=0/\F<=L.2.1.length/\T (L,(k:Int))=some (.inr (bV c li D,()))/\lA l (L,(k:Int),0,0,0)=some (w,(L,(F:Int),c,li,D)))
theorem adB{β:Type}{T:aD×Int->Option ((β×(aD×Int)×Unit)⊕(Value×Unit))}{l:ak}{val:aa->β}(P:aa->Option (β×Bool))
  (hT:∀o,T o=(dS o).bind (λU=>match U with
   |.inl (w,o',_)=>(P w).bind λr=>bif !r.2 then(aZ 1 o').bind (λ(J,_)=>some (.inr (J,())))else some (.inl (r.1,o',()))
   |.inr (J,_)=>some (.inr (J,()))))
  (Y:l.length<=1000) (N:∀w,∃x,P w=some (x,cE l w)/\(w∈l->x=val w)):VT T l val:=by
 intro L k D hk;by_cases h:k<L.2.1.length
 ·obtain⟨x,O,Z⟩:=N (L.2.1[k]);have M:=rQ l (L.2.1[k]) (by omega)
  cases F:cE l (L.2.1[k])with
  |true=>
   have hm:=(Mh _ _).1 F;refine .inl ⟨h,hm,?_,?_⟩
   ·rw[hT,me L D k h];grind
   ·unfold lA;simp[qq L D k _ h,bn,M,F]
  |false=>
   refine .inr ⟨1,L.1,aG L (k+1),k+1,L.2.1[k],by decide,h,?_,?_⟩
   ·rw[hT,me L D k h];simp only[K0,O,F,bP 1 L D (k+1) h]
   ·unfold lA;simp only[qq L D k _ h,at0,bn,decide_true,cond_true,M,F,aw3,gN 1 L D (k+1) h _ rfl]
 ·refine .inr ⟨1,L.1,0,k,[],by decide,hk,?_,?_⟩
  ·rw[hT,Aq L k h,at0]
  ·unfold lA;simp (disch:=omega) only[K0,abl L k _ h,bn]
theorem arV:ou PO 6 iC dz:=qJ zf (λo=>rfl) (λw hw=>by
 unfold zf iC;show∃x,(if w.length=16/\w.all eM=true then some (dz w,true)else some (0,false))=some (x,decide (w.length=16)&&w.all eM)/\_
 by_cases h:w.length=16/\w.all eM=true
 ·simp_all
 ·rw[if_neg h];cases h1:decide (w.length=16)&&w.all eM with
  |true=>grind
  |false=>exact⟨_,rfl,λh=>by cases h⟩) (λw hw=>acQ w)
def Av:ak:=[jV,wC]
def uc:ak:=[iK,pj,im]
def F5(k:aa):Int:=if k=pj then 1 else if k=im then 2 else 0
theorem asE:VT PU Av (λw=>decide (w=jV)):=adB Kw (λo=>rfl) (by decide) (λw=>by
 unfold Kw;by_cases h:w=jV
 ·subst h;exact⟨_,rfl,λ_=>rfl⟩
 ·rw[dN h];by_cases h2:w=wC
  ·subst h2;exact⟨_,rfl,λ_=>rfl⟩
  ·refine⟨false,?_,λhm=>?_⟩
   ·have:cE Av w=false:=by
      cases e:cE Av w with
      |false=>rfl
      |true=>have:=(Mh _ _).1 e;simp[Av,h,h2]at this
    grind
   ·simp[Av,h,h2]at hm)
theorem asF:VT PZ uc F5:=adB Kx (λo=>rfl) (by decide) (λw=>by
 unfold Kx;rw[show mL [iK,pj,im] w=_ from LW uc w (by decide)]
 by_cases h1:w=iK
 ·subst h1;exact⟨_,rfl,λ_=>rfl⟩
 ·by_cases h2:w=pj
  ·subst h2;exact⟨_,rfl,λ_=>rfl⟩
  ·by_cases D:w=im
   ·subst D;exact⟨_,rfl,λ_=>rfl⟩
   ·refine⟨(if bC uc (λx=>decide (x=w))>0 then bC uc (λx=>decide (x=w))else 0),?_,λhm=>?_⟩
    ·simp[pb];rfl
    ·simp[uc,h1,h2,D]at hm)
structure aP where
 ss:List (aa×aa×aa)
 cs:List (aa×aa×ak)
 ps:List (aa×aa)
 hs:List (aa×ak)
 ts:List (aa×aa)
def bB(x:aa×aa×aa):aa×aa×aa:=(x.1,AZ (dz x.2.1),x.2.2)
def ct(x:aa×aa×aa):aa×Nat×Bool:=(x.1,dz x.2.1,decide (x.2.2=jV))
def cv(x:aa×aa×ak):aa×Int×ak:=(x.1,F5 x.2.1,x.2.2)
def dc(x:aa×aa):aa×cN:=(x.1,aO x.2)
def gq(d:aa):Int:=(dz d:Int)
def dV(x:aa×ak):aa×List Int:=(x.1,x.2.map gq)
def et(x:aa×aa):aa×Int:=(x.1,fY x.2)
abbrev afr:=List (aa×Nat×Bool)×List (aa×Int×ak)×List (aa×cN)×List (aa×List Int)×List (aa×Int)
def ay(S:aP):afr:=(S.ss.map ct,S.cs.map cv,S.ps.map dc,S.hs.map dV,S.ts.map et)
abbrev Ge:=List (aa×aa×aa)×List (aa×aa×ak)×List (aa×aa)×List (aa×ak)×List (aa×aa)
def ao(S:aP):Ge:=(S.ss.map bB,S.cs,S.ps,S.hs,S.ts)
structure cR(S:aP):Prop where
 mG:S.ss.length<=8
 ss:∀x∈S.ss,bQ x.1=true/\iC x.2.1=true/\x.2.2∈Av
 Hy:(S.ss.map (·.1)).Nodup
 vp:S.cs.length<=16
 cs:∀x∈S.cs,mr x.1=true/\x.1.length<=80/\x.2.1∈uc/\x.2.2.length<=20/\x.2.2.Nodup/\∀s∈x.2.2,s∈S.ss.map (·.1)
 HR:(S.cs.map (·.1)).Nodup
 xU:S.ps.length<=16
 ps:∀x∈S.ps,dt x.1=true/\cr x.2=true/\x.2.length<=80
 Hz:(S.ps.map (·.1)).Nodup
 xY:S.hs.length<=16
 hs:∀x∈S.hs,dt x.1=true/\1<=x.2.length/\x.2.length<=4/\x.2.Nodup/\∀d∈x.2,iC d=true
 HJ:(S.hs.map (·.1)).Nodup
 xR:S.ts.length<=8
 ts:∀x∈S.ts,bQ x.1=true/\pF x.2=true/\x.2.length<=80
 Hx:(S.ts.map (·.1)).Nodup
def pd(S:aP)(r:aD×Int):List (aa×Nat×Bool)×List (aa×Int×ak)×List (aa×cN)×List (aa×List Int)×List (aa×Int)×(aD×Int)×Unit:=
 (S.ss.map ct,S.cs.map cv,S.ps.map dc,S.hs.map dV,S.ts.map et,r,())
def wW(S:aP)(o:gT):List (aa×aa×aa)×List (aa×aa×ak)×List (aa×aa)×List (aa×ak)×List (aa×aa)×gT:=
 (S.ss.map bB,S.cs,S.ps,S.hs,S.ts,o)
def rl{B:Type}(L:aD)(p:Option (List (aa×Nat×Bool)×List (aa×Int×ak)×List (aa×cN)×List (aa×List Int)×List (aa×Int)×(aD×Int)×Unit⊕(Value×B)))
  (d:Option (List (aa×aa×aa)×List (aa×aa×ak)×List (aa×aa)×List (aa×ak)×List (aa×aa)×gT)):Prop:=
 (∃F D,cR F/\D<=L.2.1.length/\p=some (.inl (pd F (L,((D:Nat):Int))))/\d=some (wW F (L,((D:Nat):Int),0,0,0)))\/
 (∃(c l J:Int) (D:Nat),¬c=0/\D<=L.2.1.length/\nd p (bV c l J)/\sE d λt=>t.2.2.2.2.2=(L,(D:Int),c,l,J))
theorem AF{β:Type}{T:aD×Int->Option ((β×(aD×Int)×Unit)⊕(Value×Unit))}{kind:Int}{ok:aa->Bool}{val:aa->β}(hT:ou T kind ok val)(l:ak)(hl:l.length<=1000)(L:aD)(k:Nat)(N:bD L)(hk:k<=L.2.1.length):
  (∃h:k<L.2.1.length,ok (L.2.1[k])=true/\T (L,(k:Int))=some (.inl (val (L.2.1[k]),(L,((k+1:Nat):Int)),()))/\
   ((cE l (L.2.1[k])=true/\kA kind l (L,(k:Int),0,0,0)=some (L.2.1[k],(L,((k+1:Nat):Int),3,L.1,aG L (k+1))))\/
    (cE l (L.2.1[k])=false/\kA kind l (L,(k:Int),0,0,0)=some (L.2.1[k],(L,((k+1:Nat):Int),0,0,0)))))\/
  (∃(c li D:Int) (J:Nat) (w:aa),¬c=0/\J<=L.2.1.length/\T (L,(k:Int))=some (.inr (bV c li D,()))/\kA kind l (L,(k:Int),0,0,0)=some (w,(L,(J:Int),c,li,D))):=by
 rcases hT L k N hk with⟨h,Z,M,F⟩|⟨c,li,D,J,w,hc,Y,M,F⟩
 ·refine .inl ⟨h,Z,M,?_⟩;have U:=rQ l (L.2.1[k]) (by omega)
  cases O:cE l (L.2.1[k])with
  |true=>refine .inl ⟨rfl,?_⟩;unfold kA;simp only[F,at0,bn,decide_true,cond_true,U,O,gN 3 L N (k+1) h (0,0) rfl]
  |false=>refine .inr ⟨rfl,?_⟩;unfold kA;simp[F,bn,U,O]
 ·refine .inr ⟨c,li,D,J,w,hc,Y,M,?_⟩;unfold kA;simp (disch:=omega) only[K0,F,bn]
theorem ZW(w:aa):∃(b:Int×Bool) (t:aa),nT w=some b/\zY b.1=some t/\(iC w=true->t=AZ (dz w)):=by
 rw[Ku];by_cases h:w.length=16/\w.all eM=true
 ·rw[if_pos h];have:=FG w (by omega) h.2
  exact⟨_,_,rfl,X2 _ this,λ_=>rfl⟩
 ·rw[if_neg h];refine⟨_,_,rfl,X2 0 (by simp),λg=>absurd ?_ h⟩
  grind[iC]
theorem aau(S:aP):(S.ss.map ct).map (·.1)=S.ss.map (·.1):=by rw[aA1];rfl
theorem aav(S:aP):(S.ss.map bB).map (·.1)=S.ss.map (·.1):=by rw[aA1];rfl
theorem al5(S:aP)(D:cR S)(L:aD)(U:bD L)(k:Nat)(hk:k<=L.2.1.length):
  rl L (IX (S.ss.map ct) (S.cs.map cv) (S.ps.map dc) (S.hs.map dV) (S.ts.map et) (L,(k:Int))) (mO qu (S.ss.map bB) S.cs S.ps S.hs S.ts (L,(k:Int),0,0,0)):=by
 have h8:=D.mG;have az:=ahq (S.ss.map bB) S.cs S.ps S.hs S.ts (by rw[au1];omega)
 have hr:=akS (S.ss.map ct) 8 L U k hk;have hr:C3 8 (L,k) (S.ss.map ct)=_:=hr;unfold rl IX mO;simp only[hr,az,at0,au1,mQ _ _ L U k hk,aav];have hB:∀w (c li F) (M:Nat) (hc:¬c=0) g,sE ((nT w).bind λbits=>(zY bits.1).bind λtext=>(lA [jV,wC] (L,M,c,li,F)).bind λone=>J (S.ss.length+[(g,text,one.1)].length<=1000000000)<|some ((S.ss.map bB++[(g,text,one.1)]),S.cs,S.ps,S.hs,S.ts,one.2)) (λt=>t.2.2.2.2.2=(L,(M:Int),c,li,F)):=by intro w c li F M hc g;obtain⟨b,t,e1,e2,_⟩:=ZW w;simp[e1,e2,Mb _ (L,M,c,li,F) hc];simp (disch:=omega) only[K0];rfl
 by_cases c8:S.ss.length=8
 ·have hc:¬(2:Int)=0:=by decide
  refine .inr ⟨2,L.1,aG L k,k,hc,hk,?_,?_⟩
  ·simp[if_pos c8];rfl
  ·simp only[if_pos (show(8:Int)<=S.ss.length by omega),at0]
   exact hB [] 2 L.1 (aG L k) k hc []
 ·simp only[if_neg c8,if_neg (show¬8<=(S.ss.length:Int) by omega),au1]
  rcases AF SY (S.ss.map (·.1)) (by rw[au1];omega) L k U hk with⟨h1,hp,Z,N⟩|⟨c,li,F,M,w,hc,Y,Z,N⟩
  ·simp only[id]at Z;have hu:=ajn (S.ss.map ct) (L.2.1[k]) (by rw[au1];omega) L U (k+1) h1
   rw[aau]at hu;rcases N with⟨hi,N⟩|⟨hi,N⟩
   ·have hc:¬(3:Int)=0:=by decide
    refine .inr ⟨3,L.1,aG L (k+1),k+1,hc,h1,?_,?_⟩
    ·simp only[K0,Z,hu,hi];rfl
    ·simp only[N,at0];exact hB [] 3 L.1 (aG L (k+1)) (k+1) hc _
   ·simp only[Z,N,at0,hu,hi,av7,if_false];rcases arV L (k+1) U h1 with⟨h2,hx,an,ah⟩|⟨c,li,F,M,w,hc,Y,an,ah⟩
    ·obtain⟨b,t,e1,e2,e3⟩:=ZW (L.2.1[k+1]);have e3:=e3 hx;subst e3;simp only[an,ah,e1,e2,at0];rcases asE L (k+1+1) U h2 with⟨h3,hm,ar,O⟩|⟨c,li,F,M,w,hc,Y,ar,O⟩
     ·have O:lA [jV,wC] (L,((k+1+1:Nat):Int),0,0,0)=_:=O;refine .inl ⟨{S with ss:=S.ss++[(L.2.1[k],L.2.1[k+1],L.2.1[k+1+1])]},k+1+1+1,⟨?_,?_,?_,D.vp,?_,D.HR,D.xU,D.ps,D.Hz,D.xY,D.hs,D.HJ,D.xR,D.ts,D.Hx⟩,h3,?_,?_⟩
      ·show(S.ss++[_]).length<=8;simp;omega
      ·exact lu D.ss ⟨hp,hx,hm⟩
      ·show((S.ss++[(L.2.1[k],L.2.1[k+1],L.2.1[k+1+1])]).map (λx:aa×aa×aa=>x.1)).Nodup;rw[aw1];exact nS D.Hy (sk hi)
      ·intro x aE;obtain⟨g1,g2,g3,g4,g5,g6⟩:=D.cs x aE;refine⟨g1,g2,g3,g4,g5,λs hs=>?_⟩;show s∈(S.ss++[(L.2.1[k],L.2.1[k+1],L.2.1[k+1+1])]).map (λx:aa×aa×aa=>x.1);rw[aw1];exact List.mem_append_left _ (g6 s hs)
      ·simp only[ar,au1];simp (disch:=omega) only[K0];unfold pd;simp[aw1];rfl
      ·simp only[O];simp (disch:=omega) only[K0];unfold wW;simp[aw1];rfl
     ·have O:lA [jV,wC] (L,((k+1+1:Nat):Int),0,0,0)=_:=O;refine .inr ⟨c,li,F,M,hc,Y,?_,?_⟩
      ·simp only[ar,au1];rfl
      ·simp only[O];simp (disch:=omega) only[K0];rfl
    ·refine .inr ⟨c,li,F,M,hc,Y,?_,?_⟩
     ·simp only[an,au1];rfl
     ·simp only[ah];exact hB _ c li F M hc _
  ·refine .inr ⟨c,li,F,M,hc,Y,?_,?_⟩
   ·simp[Z];rfl
   ·simp only[N,at0,jb _ (L,M,c,li,F) hc];exact hB [] c li F M hc _
theorem apF(l:List (aa×aa)):(l.map dc).map (·.1)=l.map (·.1):=by rw[aA1];rfl
theorem apE(l:List (aa×aa)):(l.map et).map (·.1)=l.map (·.1):=by rw[aA1];rfl
theorem aaw(l:List (aa×aa×ak)):(l.map cv).map (·.1)=l.map (·.1):=by rw[aA1];rfl
theorem apG(l:List (aa×ak)):(l.map dV).map (·.1)=l.map (·.1):=by rw[aA1];rfl
theorem aq2(S:aP)(D:cR S)(L:aD)(J:bD L)(k:Nat)(hk:k<=L.2.1.length):
  rl L (Jq (S.ss.map ct) (S.cs.map cv) (S.ps.map dc) (S.hs.map dV) (S.ts.map et) (L,(k:Int))) (mO w8 (S.ss.map bB) S.cs S.ps S.hs S.ts (L,(k:Int),0,0,0)):=by
 have hm:=D.xU;have an:=Xn S.ps (by omega)
 have hr:=apd (S.ps.map dc) 16 L J k hk;have hr:Dl 16 (L,k) (S.ps.map dc)=_:=hr;unfold rl Jq mO;simp only[hr,an,at0,mQ _ _ L J k hk];by_cases c8:S.ps.length=16
 ·have hc:¬(2:Int)=0:=by decide
  refine .inr ⟨2,L.1,aG L k,k,hc,hk,?_,?_⟩
  ·simp[if_pos c8];rfl
  ·simp[E8 _ _ (L,k,2,L.1,aG L k) hc];simp (disch:=omega) only[K0];rfl
 ·simp only[if_neg c8,if_neg (show¬16<=(S.ps.length:Int) by omega),au1]
  rcases AF acq (S.ps.map (·.1)) (by grind) L k J hk with⟨h1,hp,M,F⟩|⟨c,li,N,O,w,hc,Z,M,F⟩
  ·simp only[id]at M;have hu:=alT (S.ps.map dc) (L.2.1[k]) (by grind) L J (k+1) h1
   rw[apF]at hu;rcases F with⟨Y,F⟩|⟨Y,F⟩
   ·have hc:¬(3:Int)=0:=by decide
    refine .inr ⟨3,L.1,aG L (k+1),k+1,hc,h1,?_,?_⟩
    ·simp (disch:=omega) only[K0,M,hu];rfl
    ·simp[F];simp (disch:=omega) only[K0];rfl
   ·simp only[M,F,at0,hu,Y,av7,if_false];rcases Z2 L (k+1) J h1 with⟨h2,hx,ah,U⟩|⟨c,li,N,O,w,hc,Z,ah,U⟩
    ·refine .inl ⟨{S with ps:=S.ps++[(L.2.1[k],L.2.1[k+1])]},k+1+1,⟨D.mG,D.ss,D.Hy,D.vp,D.cs,D.HR,?_,?_,?_,D.xY,D.hs,D.HJ,D.xR,D.ts,D.Hx⟩,h2,?_,?_⟩
     ·grind
     ·exact lu D.ps ⟨hp,hx,wX J h2⟩
     ·show((S.ps++[(L.2.1[k],L.2.1[k+1])]).map (λx:aa×aa=>x.1)).Nodup;rw[aw1];exact nS D.Hz (sk Y)
     ·simp only[ah,au1];simp (disch:=omega) only[K0];unfold pd;simp[aw1];rfl
     ·simp only[U];simp (disch:=omega) only[K0];rfl
    ·refine .inr ⟨c,li,N,O,hc,Z,?_,?_⟩
     ·simp only[ah,au1];rfl
     ·simp only[U];simp (disch:=omega) only[K0];rfl
  ·refine .inr ⟨c,li,N,O,hc,Z,?_,?_⟩
   ·simp[M];rfl
   ·simp[F,jb _ (L,O,c,li,N) hc];simp (disch:=omega) only[K0];rfl
theorem alW(S:aP)(D:cR S)(L:aD)(J:bD L)(k:Nat)(hk:k<=L.2.1.length):
  rl L (IW (S.ss.map ct) (S.cs.map cv) (S.ps.map dc) (S.hs.map dV) (S.ts.map et) (L,(k:Int))) (mO wB (S.ss.map bB) S.cs S.ps S.hs S.ts (L,(k:Int),0,0,0)):=by
 have hm:=D.xR;have an:=Xn S.ts (by omega)
 have hr:=akR (S.ts.map et) 8 L J k hk;have hr:C2 8 (L,k) (S.ts.map et)=_:=hr;unfold rl IW mO;simp only[hr,an,at0,mQ _ _ L J k hk];by_cases c8:S.ts.length=8
 ·have hc:¬(2:Int)=0:=by decide
  refine .inr ⟨2,L.1,aG L k,k,hc,hk,?_,?_⟩
  ·simp[if_pos c8];rfl
  ·simp[E8 _ _ (L,k,2,L.1,aG L k) hc];simp (disch:=omega) only[K0];rfl
 ·simp only[if_neg c8,if_neg (show¬8<=(S.ts.length:Int) by omega),au1]
  rcases AF SY (S.ts.map (·.1)) (by grind) L k J hk with⟨h1,hp,M,F⟩|⟨c,li,N,O,w,hc,Z,M,F⟩
  ·simp only[id]at M;have hu:=ajm (S.ts.map et) (L.2.1[k]) (by grind) L J (k+1) h1
   rw[apE]at hu;rcases F with⟨Y,F⟩|⟨Y,F⟩
   ·have hc:¬(3:Int)=0:=by decide
    refine .inr ⟨3,L.1,aG L (k+1),k+1,hc,h1,?_,?_⟩
    ·simp (disch:=omega) only[K0,M,hu];rfl
    ·simp[F];simp (disch:=omega) only[K0];rfl
   ·simp only[M,F,at0,hu,Y,av7,if_false];rcases abm L (k+1) J h1 with⟨h2,hx,ah,U⟩|⟨c,li,N,O,w,hc,Z,ah,U⟩
    ·refine .inl ⟨{S with ts:=S.ts++[(L.2.1[k],L.2.1[k+1])]},k+1+1,⟨D.mG,D.ss,D.Hy,D.vp,D.cs,D.HR,D.xU,D.ps,D.Hz,D.xY,D.hs,D.HJ,?_,?_,?_⟩,h2,?_,?_⟩
     ·grind
     ·exact lu D.ts ⟨hp,hx,wX J h2⟩
     ·show((S.ts++[(L.2.1[k],L.2.1[k+1])]).map (λx:aa×aa=>x.1)).Nodup;rw[aw1];exact nS D.Hx (sk Y)
     ·simp only[ah,au1];simp (disch:=omega) only[K0];unfold pd;simp[aw1];rfl
     ·simp only[U];simp (disch:=omega) only[K0];rfl
    ·refine .inr ⟨c,li,N,O,hc,Z,?_,?_⟩
     ·simp only[ah,au1];rfl
     ·simp only[U];simp (disch:=omega) only[K0];rfl
  ·refine .inr ⟨c,li,N,O,hc,Z,?_,?_⟩
   ·simp[M];rfl
   ·simp[F,jb _ (L,O,c,li,N) hc];simp (disch:=omega) only[K0];rfl
theorem ZR(c2 F:aa)(J:ak)(p:Ge)(L:aD)(k c l D:Int)(hc:¬c=0):
  ae ll (c2,F,J,p.1,p.2.1,p.2.2.1,p.2.2.2.1,p.2.2.2.2,L.1,L.2.1,L.2.2,k,c,l,D,())=some (c2,F,J,p.1,p.2.1,p.2.2.1,p.2.2.2.1,p.2.2.2.2,L.1,L.2.1,L.2.2,k,c,l,D,()):=by
 refine bf ?_;simp[ll,qt ((L.1,L.2.1,L.2.2),k,c,l,D) hc]
theorem Zg(p:Ge)(s:aa)(D:p.1.length<=1000):vO p s=some (bC p.1 λx=>decide (x.1=s)):=by
 have h:=jc (f:=C1) p.1 (λx=>decide (x.1=s)) (λk=>(s,k,p.1,p.2.1,p.2.2.1,p.2.2.2.1,p.2.2.2.2,())) (λk=>au8 (k,())) (au6 ()) (λk h hp=>by
  have hp:=of_decide_eq_false hp;simp (disch:=omega) only[K0,C1]) (λk h hp=>by
  have hp:=of_decide_eq_true hp;simp (disch:=omega) only[K0,C1]) (by
  simp[C1])
 grind[vO,bC]
theorem amZ(S:aP)(hS:cR S)(L:aD)(Y:bD L)(g F:aa)(U:Int):∀(n k:Nat) (seen:ak),L.2.1.length-k<=n->k<=L.2.1.length->seen.length<=k->seen.Nodup->(∀s∈seen,s∈S.ss.map (·.1))->
  (∃D,D.length<=20/\D.Nodup/\(∀s∈D,s∈S.ss.map (·.1))/\
   ae qc (g,U,seen,S.ss.map ct,S.cs.map cv,S.ps.map dc,S.hs.map dV,S.ts.map et,L.1,L.2.1,L.2.2,(k:Int),())=some (.inl (g,U,D,S.ss.map ct,S.cs.map cv,S.ps.map dc,S.hs.map dV,S.ts.map et,L.1,L.2.1,L.2.2,(L.2.1.length:Int),()))/\
   ae ll (g,F,seen,S.ss.map bB,S.cs,S.ps,S.hs,S.ts,L.1,L.2.1,L.2.2,(k:Int),0,0,0,())=some (g,F,D,S.ss.map bB,S.cs,S.ps,S.hs,S.ts,L.1,L.2.1,L.2.2,(L.2.1.length:Int),0,0,0,()))\/
  (∃(c l M:Int) (k':Nat) (D:ak),¬c=0/\k'<=L.2.1.length/\nd (ae qc (g,U,seen,S.ss.map ct,S.cs.map cv,S.ps.map dc,S.hs.map dV,S.ts.map et,L.1,L.2.1,L.2.2,(k:Int),())) (bV c l M)/\
   ae ll (g,F,seen,S.ss.map bB,S.cs,S.ps,S.hs,S.ts,L.1,L.2.1,L.2.2,(k:Int),0,0,0,())=some (g,F,D,S.ss.map bB,S.cs,S.ps,S.hs,S.ts,L.1,L.2.1,L.2.2,(k':Int),c,l,M,())):=by
 have a1:=Y.2.1;have h8:=hS.mG
 have done:∀seen,seen.length<=20->seen.Nodup->(∀s∈seen,s∈S.ss.map (·.1))->(∃D,D.length<=20/\D.Nodup/\(∀s∈D,s∈S.ss.map (·.1))/\
   ae qc (g,U,seen,S.ss.map ct,S.cs.map cv,S.ps.map dc,S.hs.map dV,S.ts.map et,L.1,L.2.1,L.2.2,L.2.1.length,())=some (.inl (g,U,D,S.ss.map ct,S.cs.map cv,S.ps.map dc,S.hs.map dV,S.ts.map et,L.1,L.2.1,L.2.2,L.2.1.length,()))/\
   ae ll (g,F,seen,S.ss.map bB,S.cs,S.ps,S.hs,S.ts,L.1,L.2.1,L.2.2,L.2.1.length,0,0,0,())=some (g,F,D,S.ss.map bB,S.cs,S.ps,S.hs,S.ts,L.1,L.2.1,L.2.2,(L.2.1.length:Int),0,0,0,())):=by
  intro seen q1 q2 q3;refine⟨seen,q1,q2,q3,bf ?_,bf ?_⟩
  ·simp[qc];rw[show iZ ((L.1,L.2.1,L.2.2),(L.2.1.length:Int))=_ from fC L L.2.1.length,dN (show¬L.2.1.length<L.2.1.length by omega)]
   rfl
  ·simp[ll];rw[show ky ((L.1,L.2.1,L.2.2),(L.2.1.length:Int),0,0,0)=_ from qn L L.2.1.length (0,0),dN (show¬L.2.1.length<L.2.1.length by omega)]
   rfl
 have bad:=λ(D:ak) (k c l M) hc=>ZR g F D (S.ss.map bB,S.cs,S.ps,S.hs,S.ts) L k c l M hc;intro n
 induction n with
 |zero=>
  intro k seen hn hk hs q2 q3;have e:k=L.2.1.length:=by omega
  subst e;exact .inl (done seen (by omega) q2 q3)
 |succ n ih=>
  intro k seen hn hk hs q2 q3;by_cases J:k<L.2.1.length
  ·have e1:iZ ((L.1,L.2.1,L.2.2),k)=some (true,(L,(k:Int))):=by
     have:=fC L k;rw[dY J]at this;exact this
   have e2:ky ((L.1,L.2.1,L.2.2),k,0,0,0)=some (true,(L,(k:Int),0,0,0)):=by have:=qn L k (0,0);rw[dY J]at this;exact this
   rcases SY L k Y hk with⟨_,hp,Z,hd⟩|⟨c,l,M,k',w',hc,aE,Z,hd⟩
   ·simp[id]at Z;have ah:=KE seen (L.2.1[k]) (by omega)
    have an:=rQ seen (L.2.1[k]) (by omega)
    have az:tt (S.ss.map ct,S.cs.map cv,S.ps.map dc,S.hs.map dV,S.ts.map et) (L.2.1[k])=some (bC (S.ss.map ct) λx=>decide (x.1=L.2.1[k])):=by unfold tt;rw[QC _ _ (by grind),at0]
    have ar:=Zg (S.ss.map bB,S.cs,S.ps,S.hs,S.ts) (L.2.1[k]) (by grind)
    have i1:((S.ss.map ct).any λx=>decide (x.1=L.2.1[k]))=cE (S.ss.map (·.1)) (L.2.1[k]):=by rw[wg,aau]
    have i2:((S.ss.map bB).any λx=>decide (x.1=L.2.1[k]))=cE (S.ss.map (·.1)) (L.2.1[k]):=by rw[wg,aav]
    cases O:cE (S.ss.map (·.1)) (L.2.1[k])with
    |false=>
     refine .inr ⟨4,L.1,aG L (k+1),k+1,seen++[L.2.1[k]],by decide,J,?_,?_⟩
     ·rw[bI];simp only[K0,qc,e1,Z,az,Af,i1,O,bP 4 L Y (k+1) J];rfl
     ·have N:ll (g,F,seen,S.ss.map bB,S.cs,S.ps,S.hs,S.ts,L.1,L.2.1,L.2.2,k,0,0,0,())=some (.inl (g,F,seen++[L.2.1[k]],S.ss.map bB,S.cs,S.ps,S.hs,S.ts,L.1,L.2.1,L.2.2,((k+1):Int),4,L.1,aG L (k+1),())):=by
        simp only[ll,e2,at0,hd,bn,decide_true,ar,Af,i2,O,gN 4 L Y (k+1) J (0,0) rfl];simp (disch:=omega) only[K0]
      rw[bd N];exact bad _ _ 4 _ _ (by simp)
    |true=>
     cases hi:cE seen L.2.1[k]with
     |true=>
      rw[hi]at ah an;refine .inr ⟨3,L.1,aG L (k+1),k+1,seen++[L.2.1[k]],by decide,J,?_,?_⟩
      ·rw[bI];simp only[K0,qc,e1,Z,az,Af,i1,O,ah,bP 3 L Y (k+1) J];rfl
      ·have N:ll (g,F,seen,S.ss.map bB,S.cs,S.ps,S.hs,S.ts,L.1,L.2.1,L.2.2,k,0,0,0,())=some (.inl (g,F,seen++[L.2.1[k]],S.ss.map bB,S.cs,S.ps,S.hs,S.ts,L.1,L.2.1,L.2.2,((k+1):Int),3,L.1,aG L (k+1),())):=by
         simp only[ll,e2,at0,hd,bn,decide_true,ar,Af,i2,O,an,gN 3 L Y (k+1) J (0,0) rfl];simp (disch:=omega) only[K0]
       rw[bd N];exact bad _ _ 3 _ _ (by simp)
     |false=>
      rw[hi]at ah an;have N:qc (g,U,seen,S.ss.map ct,S.cs.map cv,S.ps.map dc,S.hs.map dV,S.ts.map et,L.1,L.2.1,L.2.2,k,())=some (.inl (g,U,seen++[L.2.1[k]],S.ss.map ct,S.cs.map cv,S.ps.map dc,S.hs.map dV,S.ts.map et,L.1,L.2.1,L.2.2,((k+1):Int),())):=by simp[qc,e1,Z,az,Af,i1,O,ah];simp (disch:=omega) only[K0]
      have e4:ll (g,F,seen,S.ss.map bB,S.cs,S.ps,S.hs,S.ts,L.1,L.2.1,L.2.2,k,0,0,0,())=some (.inl (g,F,seen++[L.2.1[k]],S.ss.map bB,S.cs,S.ps,S.hs,S.ts,L.1,L.2.1,L.2.2,((k+1):Int),0,0,0,())):=by simp[ll,e2,hd,bn,ar,Af,i2,O,an];simp (disch:=omega) only[K0]
      rw[bd N,bd e4];exact ih (k+1) (seen++[L.2.1[k]]) (by omega) J (by simp;omega) (nS q2 (sk hi)) (lu q3 ((Mh _ _).1 O))
   ·refine .inr ⟨c,l,M,k',seen++[w'],hc,aE,?_,?_⟩
    ·rw[bI];simp only[K0,qc,e1,Z];rfl
    ·have a6:=rQ seen w' (by omega)
     have N:ll (g,F,seen,S.ss.map bB,S.cs,S.ps,S.hs,S.ts,L.1,L.2.1,L.2.2,k,0,0,0,())=some (.inl (g,F,seen++[w'],S.ss.map bB,S.cs,S.ps,S.hs,S.ts,L.1,L.2.1,L.2.2,k',c,l,M,())):=by simp[ll,e2,hd,bn,dN hc];simp (disch:=omega) only[K0]
     rw[bd N];exact bad _ _ c _ _ hc
  ·have e:k=L.2.1.length:=by omega
   subst e;exact .inl (done seen (by omega) q2 q3)
theorem aoL(S:aP)(D:cR S)(L:aD)(J:bD L)(k:Nat)(hk:k<=L.2.1.length):
  rl L (Ji (S.ss.map ct) (S.cs.map cv) (S.ps.map dc) (S.hs.map dV) (S.ts.map et) (L,(k:Int))) (mO qx (S.ss.map bB) S.cs S.ps S.hs S.ts (L,(k:Int),0,0,0)):=by
 have hm:=D.vp;have an:=ahr (S.ss.map bB) S.cs S.ps S.hs S.ts (by omega)
 have hr:=amc (S.cs.map cv) 16 L J k hk;have hr:C9 16 (L,k) (S.cs.map cv)=_:=hr;have bad:=λ(a b) U (k c l F) hc=>ZR a b U (S.ss.map bB,S.cs,S.ps,S.hs,S.ts) L k c l F hc;unfold rl Ji mO QR;simp only[hr,an,dN (show¬qx=qu by decide),decide_true,cond_true,cond_false,at0,mQ _ _ L J k hk,jf]
 by_cases c8:S.cs.length=16
 ·have hc:¬(2:Int)=0:=by decide
  refine .inr ⟨2,L.1,aG L k,k,hc,hk,?_,?_⟩
  ·simp[if_pos c8];rfl
  ·simp[if_pos (show(16:Int)<=S.cs.length by omega),E8 _ _ (L,k,2,L.1,aG L k) hc,Mb _ (L,k,2,L.1,aG L k) hc,bad _ _ _ _ 2 _ _ hc]
   simp (disch:=omega) only[K0];rfl
 ·simp only[if_neg c8,if_neg (show¬16<=(S.cs.length:Int) by omega),au1,jf]
  rcases AF arX (S.cs.map (·.1)) (by grind) L k J hk with⟨h1,hp,Z,M⟩|⟨c,li,F,O,w,hc,Y,Z,M⟩
  ·simp only[id]at Z;have hu:=aj3 (S.cs.map cv) (L.2.1[k]) (by grind) L J (k+1) h1
   rw[aaw]at hu;rcases M with⟨hi,M⟩|⟨hi,M⟩
   ·have hc:¬(3:Int)=0:=by decide
    refine .inr ⟨3,L.1,aG L (k+1),k+1,hc,h1,?_,?_⟩
    ·simp (disch:=omega) only[K0,Z,hu];rfl
    ·simp only[M,at0,Mb _ (L,((k+1:Nat):Int),3,L.1,aG L (k+1)) hc,bad _ _ _ _ 3 _ _ hc];simp (disch:=omega) only[K0];rfl
   ·simp only[Z,M,at0,hu,hi,av7,if_false];rcases asF L (k+1) J h1 with⟨h2,hx,ah,N⟩|⟨c,li,F,O,w,hc,Y,ah,N⟩
    ·have N:lA [iK,pj,im] (L,((k+1:Nat):Int),0,0,0)=_:=N;simp only[ah,N,at0,au1,jf];rcases amZ S D L J (L.2.1[k]) (L.2.1[k+1]) (F5 (L.2.1[k+1])) L.2.1.length (k+1+1) [] (by simp) h2 (au2 _) aA3 (λs h=>by cases h)with⟨U,g1,g2,g3,g4,g5⟩|⟨c,li,F,O,U,hc,Y,g4,g5⟩
     ·refine .inl ⟨{S with cs:=S.cs++[(L.2.1[k],L.2.1[k+1],U)]},L.2.1.length,⟨D.mG,D.ss,D.Hy,?_,?_,?_,D.xU,D.ps,D.Hz,D.xY,D.hs,D.HJ,D.xR,D.ts,D.Hx⟩,at9 _,?_,?_⟩
      ·grind
      ·exact lu D.cs ⟨hp,wX J h1,hx,g1,g2,g3⟩
      ·show((S.cs++[(L.2.1[k],L.2.1[k+1],U)]).map (λx:aa×aa×ak=>x.1)).Nodup;rw[aw1];exact nS D.HR (sk hi)
      ·simp only[g4,at0,au1];simp (disch:=omega) only[K0];unfold pd;simp[aw1];rfl
      ·simp only[g5];simp (disch:=omega) only[K0];rfl
     ·obtain⟨b,g4⟩:=mh g4;refine .inr ⟨c,li,F,O,hc,Y,?_,?_⟩
      ·simp only[g4];rfl
      ·simp only[g5];simp (disch:=omega) only[K0];rfl
    ·have N:lA [iK,pj,im] (L,((k+1:Nat):Int),0,0,0)=_:=N;refine .inr ⟨c,li,F,O,hc,Y,?_,?_⟩
     ·simp only[ah];rfl
     ·simp only[N,at0,bad _ _ _ _ c _ _ hc];simp (disch:=omega) only[K0];rfl
  ·refine .inr ⟨c,li,F,O,hc,Y,?_,?_⟩
   ·simp[Z];rfl
   ·simp[M,Mb _ (L,O,c,li,F) hc,bad _ _ _ _ c _ _ hc];simp (disch:=omega) only[K0];rfl
theorem ap0{a b:UInt8}(D:eM a=true)(F:eM b=true)(h:gV a.toNat=gV b.toNat):a=b:=by have D:=of_decide_eq_true D;have F:=of_decide_eq_true F;apply UInt8.toNat_inj.1;unfold gV at D F h;split at D<;>split at F<;>(try split at D)<;>(try split at F)<;>(try split at h)<;>(try split at h)<;>(try split at h)<;>(try split at h)<;>omega
theorem Rt(s:aa):∀n,s.foldl dn n=n*16^s.length+s.foldl dn 0:=by
 induction s with
 |nil=>grind
 |cons c t D=>grind[dn]
theorem Rq:∀(s:aa),s.all eM=true->s.foldl dn 0<16^s.length
 |[],_=>by show 0<1;omega
 |c::t,h=>by
  rw[ay4,au0]at h;have h2:=of_decide_eq_true h.1;have D:=Rq t h.2;show t.foldl dn (dn 0 c)<_;rw[Rt];have:dn 0 c+1<=16:=by unfold dn;omega
  have:=az8 (16^t.length) this;grind
theorem aaK:∀{a b:aa},a.all eM=true->b.all eM=true->a.length=b.length->a.foldl dn 0=b.foldl dn 0->a=b
 |[],[],_,_,_,_=>rfl
 |[],y::t,_,_,h,_=>by simp at h
 |x::s,[],_,_,h,_=>by simp at h
 |x::s,y::t,D,F,J,h=>by
  rw[ay4,au0]at D F;have J:s.length=t.length:=by grind
  have h:s.foldl dn (dn 0 x)=t.foldl dn (dn 0 y):=h;rw[Rt s,Rt t,J]at h;have M:=Rq s D.2;have O:=Rq t F.2;rw[J]at M
  have L:dn 0 x=dn 0 y:=by
   have U:(dn 0 x*16^t.length+s.foldl dn 0)/16^t.length=dn 0 x:=by rw[aB6,Nat.add_mul_div_right _ _ (Nat.pow_pos (by simp)),Nat.div_eq_of_lt M,ax2]
   have Y:(dn 0 y*16^t.length+t.foldl dn 0)/16^t.length=dn 0 y:=by rw[aB6,Nat.add_mul_div_right _ _ (Nat.pow_pos (by simp)),Nat.div_eq_of_lt O,ax2]
   grind
  have N:=ap0 D.1 F.1 (by unfold dn at L;omega)
  rw[L]at h;rw[N,aaK D.2 F.2 J (by omega)]
theorem we{d:aa}(h:iC d=true):d.length=16/\d.all eM=true:=by grind[iC]
theorem arF{a b:aa}(F:iC a=true)(J:iC b=true):gq a=gq b<->a=b:=by
 obtain⟨L,a2⟩:=we F;obtain⟨M,D⟩:=we J;refine⟨λh=>aaK a2 D (by omega) ?_,λh=>by rw[h]⟩
 grind[gq,Tp]
theorem ab0(D:ak)(d:aa)(hs:∀x∈D,iC x=true)(F:iC d=true):((D.map gq).any λx=>decide (x=gq d))=cE D d:=by
 unfold cE
 induction D with
 |nil=>rfl
 |cons x t J=>
  rw[aD7];have h1:=hs x aw4
  have:decide (gq x=gq d)=decide (x=d):=by
   by_cases h:x=d
   ·grind
   ·rw[dN h,dN (λg=>h ((arF h1 F).1 g))]
  grind
theorem Mj(kind:Int)(l:ak)(o:gT):K7 kind o l=(kA kind l o).bind λr=>some (r.1,r.2,l):=by
 unfold K7 kA;cases eV kind o with
 |none=>rfl
 |some t=>grind
theorem aaM(h:aa)(F:ak)(p:Ge)(L:aD)(k c l D:Int)(hc:¬c=0):
  ae ln (h,F,p.1,p.2.1,p.2.2.1,p.2.2.2.1,p.2.2.2.2,L.1,L.2.1,L.2.2,k,c,l,D,())=some (h,F,p.1,p.2.1,p.2.2.1,p.2.2.2.1,p.2.2.2.2,L.1,L.2.1,L.2.2,k,c,l,D,()):=by
 refine bf ?_;simp only[K0,ln,qt ((L.1,L.2.1,L.2.2),k,c,l,D) hc]
def MG(D:ak):Prop:=1<=D.length/\D.length<=4/\D.Nodup/\∀d∈D,iC d=true
theorem aoq(S:aP)(L:aD)(Y:bD L)(h:aa):∀(n k:Nat) (D:ak),L.2.1.length-k<=n->k<=L.2.1.length->MG D->
  (∃F,MG F/\
   ae nO (h,D.map gq,S.ss.map ct,S.cs.map cv,S.ps.map dc,S.hs.map dV,S.ts.map et,L.1,L.2.1,L.2.2,(k:Int),())=some (.inl (h,F.map gq,S.ss.map ct,S.cs.map cv,S.ps.map dc,S.hs.map dV,S.ts.map et,L.1,L.2.1,L.2.2,(L.2.1.length:Int),()))/\
   ae ln (h,D,S.ss.map bB,S.cs,S.ps,S.hs,S.ts,L.1,L.2.1,L.2.2,(k:Int),0,0,0,())=some (h,F,S.ss.map bB,S.cs,S.ps,S.hs,S.ts,L.1,L.2.1,L.2.2,(L.2.1.length:Int),0,0,0,()))\/
  (∃(c l M:Int) (k':Nat) (F:ak),¬c=0/\k'<=L.2.1.length/\nd (ae nO (h,D.map gq,S.ss.map ct,S.cs.map cv,S.ps.map dc,S.hs.map dV,S.ts.map et,L.1,L.2.1,L.2.2,(k:Int),())) (bV c l M)/\
   ae ln (h,D,S.ss.map bB,S.cs,S.ps,S.hs,S.ts,L.1,L.2.1,L.2.2,(k:Int),0,0,0,())=some (h,F,S.ss.map bB,S.cs,S.ps,S.hs,S.ts,L.1,L.2.1,L.2.2,(k':Int),c,l,M,())):=by
 have an:=Y.2.1
 have done:∀D,MG D->(∃F,MG F/\
   ae nO (h,D.map gq,S.ss.map ct,S.cs.map cv,S.ps.map dc,S.hs.map dV,S.ts.map et,L.1,L.2.1,L.2.2,L.2.1.length,())=some (.inl (h,F.map gq,S.ss.map ct,S.cs.map cv,S.ps.map dc,S.hs.map dV,S.ts.map et,L.1,L.2.1,L.2.2,L.2.1.length,()))/\
   ae ln (h,D,S.ss.map bB,S.cs,S.ps,S.hs,S.ts,L.1,L.2.1,L.2.2,L.2.1.length,0,0,0,())=some (h,F,S.ss.map bB,S.cs,S.ps,S.hs,S.ts,L.1,L.2.1,L.2.2,(L.2.1.length:Int),0,0,0,())):=by
  intro D q1;refine⟨D,q1,bf ?_,bf ?_⟩
  ·simp[nO];rw[show iZ ((L.1,L.2.1,L.2.2),(L.2.1.length:Int))=_ from fC L L.2.1.length,at0,dN (show¬L.2.1.length<L.2.1.length by omega)]
   rfl
  ·simp[ln];rw[show ky ((L.1,L.2.1,L.2.2),(L.2.1.length:Int),0,0,0)=_ from qn L L.2.1.length (0,0),at0,dN (show¬L.2.1.length<L.2.1.length by omega)]
   rfl
 have bad:=λ(F:ak) (k c l M) hc=>aaM h F (S.ss.map bB,S.cs,S.ps,S.hs,S.ts) L k c l M hc;intro n
 induction n with
 |zero=>
  intro k D hn hk hs;have e:k=L.2.1.length:=by omega
  subst e;exact .inl (done D hs)
 |succ n ih=>
  intro k D hn hk hs;obtain⟨s1,s4,s3,s2⟩:=hs;by_cases J:k<L.2.1.length
  ·have e1:iZ ((L.1,L.2.1,L.2.2),k)=some (true,(L,(k:Int))):=by
     have:=fC L k;rw[dY J]at this;exact this
   have e2:ky ((L.1,L.2.1,L.2.2),k,0,0,0)=some (true,(L,(k:Int),0,0,0)):=by have:=qn L k (0,0);rw[dY J]at this;exact this
   rcases AF SZ D (by omega) L k Y hk with⟨_,hp,U,N⟩|⟨c,l,M,k',w',hc,ah,U,N⟩
   ·have U:yq (L,k)=some (.inl (gq (L.2.1[k]),(L,((k+1:Nat):Int)),())):=U;have Z:=XQ (D.map gq) (gq (L.2.1[k])) (by rw[au1];omega)
    rw[ab0 D _ s2 hp]at Z;rcases N with⟨hi,N⟩|⟨hi,N⟩
    ·rw[hi]at Z;refine .inr ⟨3,L.1,aG L (k+1),k+1,D++[L.2.1[k]],by decide,J,?_,?_⟩
     ·rw[bI];simp only[K0,nO,e1,U,Z,bP 3 L Y (k+1) J];rfl
     ·have O:ln (h,D,S.ss.map bB,S.cs,S.ps,S.hs,S.ts,L.1,L.2.1,L.2.2,k,0,0,0,())=some (.inl (h,D++[L.2.1[k]],S.ss.map bB,S.cs,S.ps,S.hs,S.ts,L.1,L.2.1,L.2.2,((k+1):Int),3,L.1,aG L (k+1),())):=by
        simp only[ln,e2,at0,Mj,N,Ff _ _ (L,((k+1:Nat):Int),3,L.1,aG L (k+1)) (show¬3=0 by decide),jf]
        simp (disch:=omega) only[K0]
      rw[bd O];exact bad _ _ 3 _ _ (by decide)
    ·rw[hi]at Z;have hr:=akT (D.map gq) 4 L Y (k+1) J;have hr:C4 4 (L,((k+1:Nat):Int)) (D.map gq)=_:=hr;by_cases c4:D.length=4
     ·refine .inr ⟨2,L.1,aG L (k+1),k+1,D++[L.2.1[k]],by decide,J,?_,?_⟩
      ·rw[bI];simp (disch:=omega) only[K0,nO,e1,U,Z,hr,au1];rfl
      ·have O:ln (h,D,S.ss.map bB,S.cs,S.ps,S.hs,S.ts,L.1,L.2.1,L.2.2,k,0,0,0,())=some (.inl (h,D++[L.2.1[k]],S.ss.map bB,S.cs,S.ps,S.hs,S.ts,L.1,L.2.1,L.2.2,((k+1):Int),2,L.1,aG L (k+1),())):=by
         simp only[ln,e2,at0,Mj,N,mQ _ _ L Y (k+1) J,jf];simp (disch:=omega) only[K0]
       rw[bd O];exact bad _ _ 2 _ _ (by decide)
     ·have O:nO (h,D.map gq,S.ss.map ct,S.cs.map cv,S.ps.map dc,S.hs.map dV,S.ts.map et,L.1,L.2.1,L.2.2,(k:Int),())=some (.inl (h,(D++[L.2.1[k]]).map gq,S.ss.map ct,S.cs.map cv,S.ps.map dc,S.hs.map dV,S.ts.map et,L.1,L.2.1,L.2.2,((k+1:Nat):Int),())):=by
        simp only[nO,e1,at0,U,Z,hr,au1,if_neg c4,aw1];simp (disch:=omega) only[K0];rfl
      have e4:ln (h,D,S.ss.map bB,S.cs,S.ps,S.hs,S.ts,L.1,L.2.1,L.2.2,(k:Int),0,0,0,())=some (.inl (h,D++[L.2.1[k]],S.ss.map bB,S.cs,S.ps,S.hs,S.ts,L.1,L.2.1,L.2.2,((k+1:Nat):Int),0,0,0,())):=by simp only[ln,e2,at0,Mj,N,mQ _ _ L Y (k+1) J,jf];simp (disch:=omega) only[K0]
      rw[bd O,bd e4];exact ih (k+1) (D++[L.2.1[k]]) (by omega) J ⟨by simp,by simp;omega,nS s3 (sk hi),lu s2 hp⟩
   ·refine .inr ⟨c,l,M,k',D++[w'],hc,ah,?_,?_⟩
    ·rw[bI];simp only[K0,nO,e1,U];rfl
    ·have O:ln (h,D,S.ss.map bB,S.cs,S.ps,S.hs,S.ts,L.1,L.2.1,L.2.2,(k:Int),0,0,0,())=some (.inl (h,D++[w'],S.ss.map bB,S.cs,S.ps,S.hs,S.ts,L.1,L.2.1,L.2.2,(k':Int),c,l,M,())):=by
       simp[ln,e2,Mj,N,Ff _ _ (L,(k':Int),c,l,M) hc,jf];simp (disch:=omega) only[K0]
     rw[bd O];exact bad _ _ c _ _ hc
  ·have e:k=L.2.1.length:=by omega
   subst e;exact .inl (done D ⟨s1,s4,s3,s2⟩)
theorem ap1(S:aP)(D:cR S)(L:aD)(N:bD L)(k:Nat)(hk:k<=L.2.1.length):
  rl L (Jj (S.ss.map ct) (S.cs.map cv) (S.ps.map dc) (S.hs.map dV) (S.ts.map et) (L,(k:Int))) (mO qD (S.ss.map bB) S.cs S.ps S.hs S.ts (L,(k:Int),0,0,0)):=by
 have hm:=D.xY;have ar:=ake S.hs (by omega)
 have hr:=anE (S.hs.map dV) 16 L N k hk;have hr:Dd 16 (L,k) (S.hs.map dV)=_:=hr;have bad:=λ(a:aa) U (k c l M) hc=>aaM a U (S.ss.map bB,S.cs,S.ps,S.hs,S.ts) L k c l M hc;have az:∀w {R:Type} (q:Option R),J (([w]:ak).length<=1000000000) q=q:=λw R q=>ai (by simp only[K0];omega)
 unfold rl Jj mO Q6;simp only[hr,ar,at0,mQ _ _ L N k hk,jf];by_cases c8:S.hs.length=16
 ·have hc:¬(2:Int)=0:=by decide
  refine .inr ⟨2,L.1,aG L k,k,hc,hk,?_,?_⟩
  ·simp[if_pos c8];rfl
  ·simp[if_pos (show(16:Int)<=S.hs.length by omega),E8 _ _ (L,k,2,L.1,aG L k) hc,jb _ (L,k,2,L.1,aG L k) hc,bad _ _ _ 2 _ _ hc]
   simp (disch:=omega) only[K0];rfl
 ·simp only[if_neg c8,if_neg (show¬16<=(S.hs.length:Int) by omega),au1]
  rcases AF acq (S.hs.map (·.1)) (by rw[au1];omega) L k N hk with⟨h1,hp,Z,F⟩|⟨c,li,M,O,w,hc,Y,Z,F⟩
  ·simp only[id]at Z;have hu:=akH (S.hs.map dV) (L.2.1[k]) (by rw[au1];omega) L N (k+1) h1
   rw[apG]at hu;rcases F with⟨hi,F⟩|⟨hi,F⟩
   ·have hc:¬(3:Int)=0:=by decide
    refine .inr ⟨3,L.1,aG L (k+1),k+1,hc,h1,?_,?_⟩
    ·simp only[K0,Z,hu,hi];rfl
    ·simp only[F,at0,jb _ (L,((k+1:Nat):Int),3,L.1,aG L (k+1)) hc,bad _ _ _ 3 _ _ hc];simp (disch:=omega) only[K0];rfl
   ·simp only[Z,F,at0,hu,hi,av7,if_false];rcases SZ L (k+1) N h1 with⟨h2,hx,an,ah⟩|⟨c,li,M,O,w,hc,Y,an,ah⟩
    ·simp only[an,ah,at0,au1,jf];rcases aoq S L N (L.2.1[k]) L.2.1.length (k+1+1) [L.2.1[k+1]] (by omega) h2 ⟨at9 1,by show 1<=4;decide,List.nodup_cons.2 ⟨(λg=>by cases g),aA3⟩,λd F=>by rw[List.mem_singleton.1 F];exact hx⟩with⟨U,⟨g1,g2,g3,g6⟩,g4,g5⟩|⟨c,li,M,O,U,hc,Y,g4,g5⟩
     ·have g4:ae nO (L.2.1[k],[(dz (L.2.1[k+1]))],S.ss.map ct,S.cs.map cv,S.ps.map dc,S.hs.map dV,S.ts.map et,L.1,L.2.1,L.2.2,((k+1+1:Nat):Int),())=_:=g4;refine .inl ⟨{S with hs:=S.hs++[(L.2.1[k],U)]},L.2.1.length,⟨D.mG,D.ss,D.Hy,D.vp,D.cs,D.HR,D.xU,D.ps,D.Hz,?_,?_,?_,D.xR,D.ts,D.Hx⟩,at9 _,?_,?_⟩
      ·show(S.hs++[_]).length<=16;simp;omega
      ·exact lu D.hs ⟨hp,g1,g2,g3,g6⟩
      ·show((S.hs++[(L.2.1[k],U)]).map (λx:aa×ak=>x.1)).Nodup;rw[aw1];exact nS D.HJ (sk hi)
      ·simp only[g4,at0,au1];simp (disch:=omega) only[K0];unfold pd;simp[aw1];rfl
      ·simp only[g5];simp (disch:=omega) only[K0];rfl
     ·obtain⟨b,g4⟩:=mh g4;have g4:ae nO (L.2.1[k],[(dz (L.2.1[k+1]))],S.ss.map ct,S.cs.map cv,S.ps.map dc,S.hs.map dV,S.ts.map et,L.1,L.2.1,L.2.2,((k+1+1:Nat):Int),())=_:=g4;refine .inr ⟨c,li,M,O,hc,Y,?_,?_⟩
      ·simp only[g4];rfl
      ·simp only[g5];simp (disch:=omega) only[K0];rfl
    ·refine .inr ⟨c,li,M,O,hc,Y,?_,?_⟩
     ·simp only[an];rfl
     ·simp only[ah,at0,bad _ _ _ c _ _ hc];simp (disch:=omega) only[K0];rfl
  ·refine .inr ⟨c,li,M,O,hc,Y,?_,?_⟩
   ·simp[Z];rfl
   ·simp[F,jb _ (L,O,c,li,M) hc,bad _ _ _ c _ _ hc];simp (disch:=omega) only[K0];rfl
def P0:aP:=⟨[],[],[],[],[]⟩
def lH(ls:List aD)(i:Nat)(b:Bool)(S:aP):List aD×Int×Int×Bool×List (aa×Nat×Bool)×List (aa×Int×ak)×List (aa×cN)×List (aa×List Int)×List (aa×Int)×Unit:=
 (ls,(ls.length:Int),(i:Int),b,S.ss.map ct,S.cs.map cv,S.ps.map dc,S.hs.map dV,S.ts.map et,())
def lE(ls:List aD)(i:Nat)(S:aP):List aD×Int×Int×Int×Int×List (aa×aa×aa)×List (aa×aa×ak)×List (aa×aa)×List (aa×ak)×List (aa×aa)×Unit:=
 (ls,(i:Int),0,0,0,S.ss.map bB,S.cs,S.ps,S.hs,S.ts,())
theorem aq3(ls:List aD)(h0:0<ls.length)(hn:ls.length<=800)(D:bD ls[0])(h1:1<=(ls[0]).2.1.length):
  (kx (lH ls 0 false P0)=some (.inl (lH ls 1 true P0))/\kB (lE ls 0 P0)=some (.inl (lE ls 1 P0)))\/
  (∃c l J:Int,¬c=0/\xh (kx (lH ls 0 false P0)) (bV c l J)/\kB (lE ls 0 P0)=some (.inr (.inr (c,l,J,())))):=by
 have M:∀{R:Type} (f:aD->Option R),(ag ls (((0:Nat):Int))).bind f=f ls[0]:=λf=>aI (k:=0) h0 f;generalize Z:ls[0]=L at D h1 M;have O:dS (L,0)=_:=me L D 0 h1;have U:jz (L,0,0,0,0)=_:=qq L D 0 (0,0) h1;have Y:=D.2.1;unfold lH lE;simp only[kx,kB,M,U,at0,Jy,O];by_cases hi:L.2.1[0]=R8
 ·simp (disch:=omega) only[K0,fC];by_cases F:0+1<L.2.1.length
  ·refine .inr ⟨1,L.1,aG L (0+1+1),by decide,?_,?_⟩
   ·simp (disch:=omega) only[K0,bP 1 L D (0+1+1) F];rfl
   ·simp (disch:=omega) only[K0,mV L D (0+1) F,bn]
  ·refine .inl ⟨?_,?_⟩
   ·grind
   ·simp only[mU L (0+1) F,at0,bn,decide_true,av2,cond_false]
 ·have hc:¬(1:Int)=0:=by decide
  have hf:=bP 1 L D (0+1) h1;have N:=gN 1 L D (0+1) h1 (0,0) rfl;refine .inr ⟨1,L.1,aG L (0+1),by decide,?_,?_⟩
  ·simp (disch:=omega) only[K0,hf];rfl
  ·simp (disch:=omega) only[K0,N,jd (L,((0+1:Nat):Int),1,L.1,aG L (0+1)) hc,bn]
theorem ar4(ls:List aD)(i:Nat)(hi:i<ls.length)(h0:0<i)(hn:ls.length<=800)(M:bD ls[i])(h1:1<=(ls[i]).2.1.length)(S:aP)(hS:cR S):
  (∃U,cR U/\kx (lH ls i true S)=some (.inl (lH ls (i+1) true U))/\kB (lE ls i S)=some (.inl (lE ls (i+1) U)))\/
  (∃c li O:Int,¬c=0/\xh (kx (lH ls i true S)) (bV c li O)/\kB (lE ls i S)=some (.inr (.inr (c,li,O,())))):=by
 have hg:∀{R:Type} (f:aD->Option R),(ag ls i).bind f=f ls[i]:=λf=>aI hi f;generalize a6:ls[i]=L at M h1 hg;have az:dS (L,0)=_:=me L M 0 h1;have aE:jz (L,0,0,0,0)=_:=qq L M 0 (0,0) h1;have a1:=M.2.1;have an:i+1<=4611686018427387904:=by omega
 unfold lH lE;simp only[kx,kB,dY (show(i:Int)<ls.length by omega),hg,aE,at0,cond_false,dY (show(0:Int)<i by omega),Jy,az,av2]
 by_cases c0:L.2.1[0]=qu
 ·simp only[c0,decide_true,cond_true];rcases al5 S hS L M (0+1) h1 with⟨U,D,Y,Z,J,F⟩|⟨c,l,O,D,hc,Z,J,F⟩
  ·simp only[J,F,at0,pd,wW,fC];by_cases N:D<L.2.1.length
   ·refine .inr ⟨1,L.1,aG L (D+1),by decide,?_,?_⟩
    ·simp (disch:=omega) only[K0,bP 1 L M (D+1) N];rfl
    ·simp (disch:=omega) only[K0,mV L M D N,bn]
   ·refine .inl ⟨U,Y,?_,?_⟩
    ·simp (disch:=omega) only[K0]
    ·simp only[mU L D N,at0,bn,decide_true,av2,cond_false,aS,aC an]
  ·obtain⟨b,J⟩:=mh J;obtain⟨t,F,ah⟩:=od F;refine .inr ⟨c,l,O,hc,?_,?_⟩
   ·simp only[J,at0];rfl
   ·simp (disch:=omega) only[K0,F,ah,jd (L,D,c,l,O) hc,bn]
 ·simp only[dN c0,cond_false];by_cases c1:L.2.1[0]=qx
  ·simp only[c1,dN (show¬qx=qu by decide),decide_true,cond_true,cond_false]
   rcases aoL S hS L M (0+1) h1 with⟨U,D,Y,Z,J,F⟩|⟨c,l,O,D,hc,Z,J,F⟩
   ·simp only[J,F,at0,pd,wW,fC];by_cases N:D<L.2.1.length
    ·refine .inr ⟨1,L.1,aG L (D+1),by decide,?_,?_⟩
     ·simp (disch:=omega) only[K0,bP 1 L M (D+1) N];rfl
     ·simp (disch:=omega) only[K0,mV L M D N,bn]
    ·refine .inl ⟨U,Y,?_,?_⟩
     ·simp (disch:=omega) only[K0]
     ·simp only[mU L D N,at0,bn,decide_true,av2,cond_false,aS,aC an]
   ·obtain⟨b,J⟩:=mh J;obtain⟨t,F,ah⟩:=od F;refine .inr ⟨c,l,O,hc,?_,?_⟩
    ·simp only[J,at0];rfl
    ·simp (disch:=omega) only[K0,F,ah,jd (L,D,c,l,O) hc,bn]
  ·simp only[dN c1,cond_false];by_cases c2:L.2.1[0]=w8
   ·simp only[c2,dN (show¬w8=qu by decide),dN (show¬w8=qx by decide),decide_true,cond_true,cond_false]
    rcases aq2 S hS L M (0+1) h1 with⟨U,D,Y,Z,J,F⟩|⟨c,l,O,D,hc,Z,J,F⟩
    ·simp only[J,F,at0,pd,wW,fC];by_cases N:D<L.2.1.length
     ·refine .inr ⟨1,L.1,aG L (D+1),by decide,?_,?_⟩
      ·simp (disch:=omega) only[K0,bP 1 L M (D+1) N];rfl
      ·simp (disch:=omega) only[K0,mV L M D N,bn]
     ·refine .inl ⟨U,Y,?_,?_⟩
      ·simp (disch:=omega) only[K0]
      ·simp only[mU L D N,at0,bn,decide_true,av2,cond_false,aS,aC an]
    ·obtain⟨b,J⟩:=mh J;obtain⟨t,F,ah⟩:=od F;refine .inr ⟨c,l,O,hc,?_,?_⟩
     ·simp only[J,at0];rfl
     ·simp (disch:=omega) only[K0,F,ah,jd (L,D,c,l,O) hc,bn]
   ·simp only[dN c2,cond_false];by_cases c3:L.2.1[0]=qD
    ·simp only[c3,dN (show¬qD=qu by decide),dN (show¬qD=qx by decide),decide_true,cond_true]
     rcases ap1 S hS L M (0+1) h1 with⟨U,D,Y,Z,J,F⟩|⟨c,l,O,D,hc,Z,J,F⟩
     ·simp only[J,F,at0,pd,wW,fC];by_cases N:D<L.2.1.length
      ·refine .inr ⟨1,L.1,aG L (D+1),by decide,?_,?_⟩
       ·simp (disch:=omega) only[K0,bP 1 L M (D+1) N];rfl
       ·simp (disch:=omega) only[K0,mV L M D N,bn]
      ·refine .inl ⟨U,Y,?_,?_⟩
       ·simp (disch:=omega) only[K0]
       ·simp only[mU L D N,at0,bn,decide_true,av2,cond_false,aS,aC an]
     ·obtain⟨b,J⟩:=mh J;obtain⟨t,F,ah⟩:=od F;refine .inr ⟨c,l,O,hc,?_,?_⟩
      ·simp only[J,at0];rfl
      ·simp (disch:=omega) only[K0,F,ah,jd (L,D,c,l,O) hc,bn]
    ·simp only[dN c3,cond_false];by_cases c4:L.2.1[0]=wB
     ·simp only[c4,dN (show¬wB=qu by decide),dN (show¬wB=qx by decide),dN (show¬wB=qD by decide),decide_true,cond_true,cond_false]
      rcases alW S hS L M (0+1) h1 with⟨U,D,Y,Z,J,F⟩|⟨c,l,O,D,hc,Z,J,F⟩
      ·simp only[J,F,at0,pd,wW,fC];by_cases N:D<L.2.1.length
       ·refine .inr ⟨1,L.1,aG L (D+1),by decide,?_,?_⟩
        ·simp (disch:=omega) only[K0,bP 1 L M (D+1) N];rfl
        ·simp (disch:=omega) only[K0,mV L M D N,bn]
       ·refine .inl ⟨U,Y,?_,?_⟩
        ·simp (disch:=omega) only[K0]
        ·simp only[mU L D N,at0,bn,decide_true,av2,cond_false,aS,aC an]
      ·obtain⟨b,J⟩:=mh J;obtain⟨t,F,ah⟩:=od F;refine .inr ⟨c,l,O,hc,?_,?_⟩
       ·simp only[J,at0];rfl
       ·simp (disch:=omega) only[K0,F,ah,jd (L,D,c,l,O) hc,bn]
     ·simp only[dN c4,cond_false];have hc:¬(1:Int)=0:=by decide
      have hf:=bP 1 L M (0+1) h1;have ar:=gN 1 L M (0+1) h1 (0,0) rfl;refine .inr ⟨1,L.1,aG L (0+1),by decide,?_,?_⟩
      ·simp only[hf,at0];rfl
      ·simp (disch:=omega) only[K0,mO,ar,jd (L,((0+1:Nat):Int),1,L.1,aG L (0+1)) hc,bn]
def MF(S:aP):Bool×List (aa×Nat×Bool)×List (aa×Int×ak)×List (aa×cN)×List (aa×List Int)×List (aa×Int)×Unit:=(true,S.ss.map ct,S.cs.map cv,S.ps.map dc,S.hs.map dV,S.ts.map et,())
def FP(ls:List aD)(S:aP):List aD×Int×Int×Int×List (aa×aa×aa)×List (aa×aa×ak)×List (aa×aa)×List (aa×ak)×List (aa×aa)×Unit:=(ls,0,0,0,S.ss.map bB,S.cs,S.ps,S.hs,S.ts,())
theorem asP(ls:List aD)(an:∀L∈ls,bD L/\1<=L.2.1.length)(hn:ls.length<=800):∀(n i:Nat) (S:aP),ls.length-i=n->0<i->i<=ls.length->cR S->
  (∃F,cR F/\ae kx (lH ls i true S)=some (.inl (MF F))/\ae kB (lE ls i S)=some (.inl (FP ls F)))\/
  (∃c li M:Int,¬c=0/\nd (ae kx (lH ls i true S)) (bV c li M)/\ae kB (lE ls i S)=some (.inr (c,li,M,()))):=by
 intro n
 induction n with
 |zero=>
  intro i S Z h0 ah N;have e:i=ls.length:=by omega
  subst e;have D:kx (lH ls ls.length true S)=some (.inr (.inl (MF S))):=by simp[lH,kx,MF]
  have J:kB (lE ls ls.length S)=some (.inr (.inl (FP ls S))):=by simp[lE,kB,FP]
  exact .inl ⟨S,N,bf D,bf J⟩
 |succ n ih=>
  intro i S Z h0 ah N;have O:i<ls.length:=by omega
  obtain⟨U,h1⟩:=an _ (at2 O);rcases ar4 ls i O h0 hn U h1 S N with⟨F,Y,D,J⟩|⟨c,li,M,hc,D,J⟩
  ·rw[bd D,bd J];exact ih (i+1) F (by omega) (by simp) (by omega) Y
  ·obtain⟨b,D⟩:=AS D;refine .inr ⟨c,li,M,hc,?_,bf J⟩;rw[bf D];rfl
theorem as9:cR P0:=⟨au2 _,(λx h=>by cases h),aA3,au2 _,(λx h=>by cases h),aA3,au2 _,(λx h=>by cases h),aA3,au2 _,(λx h=>by cases h),aA3,au2 _,(λx h=>by cases h),aA3⟩
theorem alg(s:aa):(∃S,cR S/\zK s=some (ao S,(0,0,0))/\vZ s=some (ay S,(0,0,0)))\/(∃c li D:Int,¬c=0/\zK s=some (([],[],[],[],[]),(c,li,D))/\vZ s=some (([],[],[],[],[]),(c,li,D))):=by
 obtain⟨M,N⟩:=QF s;by_cases h0:(iM s).2.1=0
 ·have U:=QY s h0;have Y:=zk s;have Z:=yZ s;generalize iM s=R at M N h0 U Y Z;obtain⟨ls,f⟩:=R;have U:=U;subst U;have M:=M;have N:=N
  have hE:(∃L,cR L/\0<ls.length/\ae kx (lH ls 0 false P0)=some (.inl (MF L))/\ae kB (lE ls 0 P0)=some (.inl (FP ls L)))\/
    (∃c li D:Int,¬c=0/\nd (ae kx (lH ls 0 false P0)) (bV c li D)/\ae kB (lE ls 0 P0)=some (.inr (c,li,D,())))\/ls=[]:=by
   by_cases O:0<ls.length
   ·obtain⟨hL,h1⟩:=M _ (at2 O);rcases aq3 ls O N hL h1 with⟨F,J⟩|⟨c,l,D,hc,F,J⟩
    ·rw[bd F,bd J];rcases asP ls M N _ 1 P0 rfl (by simp) O as9 with⟨l',h1,h2,h3⟩|h
     ·grind
     ·exact .inr (.inl h)
    ·obtain⟨b,F⟩:=AS F;refine .inr (.inl ⟨c,l,D,hc,?_,bf J⟩);rw[bf F];rfl
   ·exact .inr (.inr (az2.1 (by omega)))
  unfold zK vZ PX;simp only[Y,Z,at0];have q1:∀{a},ae kx (lH ls 0 false P0)=a->ae kx (ls,ls.length,0,false,[],[],[],[],[],())=a:=λh=>h;have q2:∀{a},ae kB (lE ls 0 P0)=a->ae kB (ls,0,0,0,0,[],[],[],[],[],())=a:=λh=>h;rcases hE with⟨L,ah,O,F,J⟩|⟨c,l,D,hc,F,J⟩|e
  ·refine .inl ⟨L,ah,?_,?_⟩
   ·rw[q2 J];simp (disch:=omega) only[K0,FP];rfl
   ·rw[q1 F];rfl
  ·obtain⟨b,F⟩:=mh F;refine .inr ⟨c,l,D,hc,?_,?_⟩
   ·grind
   ·rw[q1 F];obtain⟨b1,b2,b3,b4,b5,b6,b7⟩:=b;have an:pe (bV c l D)=some (c,l,D):=rfl;grind
  ·subst e;refine .inr ⟨1,0,0,by decide,?_,?_⟩
   ·rw[show ae kB ([],0,0,0,0,[],[],[],[],[],())=some (.inl ([],0,0,0,[],[],[],[],[],())) from bf rfl];rfl
   ·rw[show ae kx ([],([].length),0,false,[],[],[],[],[],())=some (.inl (false,[],[],[],[],[],())) from bf rfl];rfl
 ·grind[zK,vZ,zk,yZ]
theorem mT{V R:Type}{f:V->Option (V⊕R)}(Inv:V->Prop)(D:V->Nat)(F:R->Prop)
  (h:∀v,Inv v->(∃v',f v=some (.inl v')/\Inv v'/\D v'<D v)\/(∃r,f v=some (.inr r)/\F r)):∀v,Inv v->∃r,ae f v=some r/\F r:=by
 have:∀n v,D v=n->Inv v->∃r,ae f v=some r/\F r:=by
  intro n
  induction n using Nat.strongRecOn with
  |_ n M=>
   intro v N J;rcases h v J with⟨v',e,L,hm⟩|⟨r,e,hp⟩
   ·rw[bd e];exact M (D v') (by omega) v' rfl L
   ·exact⟨r,bf e,hp⟩
 grind
theorem jl{α R:Type}{o:List α}{k:Nat}(h:k<o.length)(f:α->Option R):(o[((k:Nat):Int).toNat]?).bind f=f o[k]:=by grind
theorem An(x y:Nat)(h:x+y<4611686018427387904):hf ((x:Int)+(y:Int))=(((x+y)/2:Nat):Int):=by
 have D:IntKind.wrap .u64 ((x:Int)+(y:Int))=((x+y:Nat):Int):=by rw[SV];omega
 have F:(2:Int)^(min (1:Int).toNat (av9 .u64))=2:=by decide
 unfold hf;rw[D,F,Int.fdiv_eq_ediv_of_nonneg _ (by decide)]
 have J:((x+y:Nat):Int)/2=(((x+y)/2:Nat):Int):=by omega
 rw[J];exact wrap_i64 (by omega)
theorem swap_perm{α:Type}{o:List α}{i j:Nat}(D:i<o.length)(F:j<o.length):((o.set i o[j]).set j o[i]).Perm o:=List.set_set_perm D F
theorem Fj{α:Type}{o:List α}{i j:Nat}(D:i<o.length)(F:j<o.length)(t:Nat):((o.set i o[j]).set j o[i])[t]? =o[if t=j then i else if t=i then j else t]? :=by grind
def vm(a b n t:Nat):Nat:=if a<=t/\t<a+n then b+(t-a)else if b<=t/\t<b+n then a+(t-b)else t
def fV(a m b t:Nat):Nat:=if a<=t/\t<a+(b-m)then t+(m-a)else if a+(b-m)<=t/\t<b then t-(b-m)else t
def iS{α:Type}(o o':List α)(f:Nat->Nat):Prop:=o'.Perm o/\∀t:Nat,o'[t]? =o[f t]?
theorem iS.len{α:Type}{o o':List α}{f:Nat->Nat}(h:iS o o' f):o'.length=o.length:=h.1.length_eq
structure iz{α:Type}(P:α->Prop)(cf:α->α->Option Int)(c:α->α->Int):Prop where
 is:∀x y,P x->P y->cf x y=some (c x y)
 trans:∀x y z,P x->P y->P z->¬c y x<0->¬c z y<0->¬c z x<0
 total:∀x y,P x->P y->c x y<0->¬c y x<0
 atp:∀x y,P x->P y->¬c x y<0->¬c y x<0->x=y
def cy{α:Type}(c:α->α->Int)(o:List α)(a b:Nat):Prop:= ∀i j x y,a<=i->i<j->j<b->o[i]? =some x->o[j]? =some y->¬c y x<0
theorem cy.le{α:Type}{P:α->Prop}{cf:α->α->Option Int}{c:α->α->Int}(hc:iz P cf c){o:List α}(M:∀x∈o,P x){a b:Nat}(h:cy c o a b){i j:Nat}{x y:α}(h1:a<=i)(h2:i<=j)(L:j<b)(F:o[i]? =some x)(D:o[j]? =some y):¬c y x<0:=by
 rcases Nat.lt_or_eq_of_le h2 with h2|h2
 ·exact h i j x y h1 h2 L F D
 ·subst h2;rw[F]at D;injection D with D;subst D;have J:=M x (az6 F);exact λg=>hc.total x x J J g g
theorem cy.mono{α:Type}{c:α->α->Int}{o:List α}{a b D F:Nat}(h:cy c o a b)(h1:a<=D)(h2:F<=b):cy c o D F:=
 λi j x y g1 g2 g3=>h i j x y (by omega) g2 (by omega)
theorem cy.none{α:Type}{c:α->α->Int}{o:List α}{a b:Nat}(h:b<=a+1):cy c o a b:=λi j x y g1 g2 g3=>by omega
def Mv{α:Type}(o o':List α)(a b:Nat):Prop:=o'.Perm o/\∃f:Nat->Nat,(∀t:Nat,o'[t]? =o[f t]?)/\(∀t,t<a\/b<=t->f t=t)/\(∀t,a<=t->t<b->a<=f t/\f t<b)
theorem Mv.len{α:Type}{o o':List α}{a b:Nat}(h:Mv o o' a b):o'.length=o.length:=h.1.length_eq
theorem Mv.refl{α:Type}(o:List α)(a b:Nat):Mv o o a b:=⟨.refl _,λt=>t,λ_=>rfl,λ_ _=>rfl,λ_ h1 h2=>⟨h1,h2⟩⟩
theorem Mv.trans{α:Type}{o F J:List α}{a b:Nat}(h:Mv o F a b)(h':Mv F J a b):Mv o J a b:=by
 obtain⟨p,f,f1,f2,f3⟩:=h;obtain⟨q,g,g1,g2,g3⟩:=h';refine⟨q.trans p,λt=>f (g t),λt=>by rw[g1,f1],λt D=>by show f (g t)=t;rw[g2 t D,f2 t D],λt h1 h2=>?_⟩
 grind
theorem Mv.mono{α:Type}{o o':List α}{a b D F:Nat}(h:Mv o o' a b)(h1:D<=a)(h2:b<=F):Mv o o' D F:=by
 obtain⟨p,f,f1,f2,f3⟩:=h;refine⟨p,f,f1,λt J=>f2 t (by omega),λt k1 k2=>?_⟩
 grind
theorem Mv.of{α:Type}{o o':List α}{f:Nat->Nat}{a b:Nat}(h:iS o o' f)(h1:∀t,t<a\/b<=t->f t=t)(h2:∀t,a<=t->t<b->a<=f t/\f t<b):Mv o o' a b:=⟨h.1,f,h.2,h1,h2⟩
theorem Mv.out{α:Type}{o o':List α}{a b:Nat}(h:Mv o o' a b){t:Nat}(D:t<a\/b<=t):o'[t]? =o[t]? :=by obtain⟨p,f,f1,f2,f3⟩:=h;rw[f1,f2 t D]
theorem Mv.inn{α:Type}{o o':List α}{a b:Nat}(h:Mv o o' a b){t:Nat}(h1:a<=t)(h2:t<b):∃s,a<=s/\s<b/\o'[t]? =o[s]? :=by obtain⟨p,f,f1,f2,f3⟩:=h;exact⟨f t,(f3 t h1 h2).1,(f3 t h1 h2).2,f1 t⟩
theorem Mv.all{α:Type}{P:α->Prop}{o o':List α}{a b:Nat}(h:Mv o o' a b)(D:∀x∈o,P x):∀x∈o',P x:=λx F=>D x (h.1.subset F)
theorem aqQ{α:Type}{o:List α}{i j a b:Nat}(D:i<o.length)(F:j<o.length)(h1:a<=i)(h2:i<b)(J:a<=j)(L:j<b):Mv o ((o.set i o[j]).set j o[i]) a b:=
 ⟨swap_perm D F,λt=>if t=j then i else if t=i then j else t,Fj D F,λt M=>by show(if t=j then i else if t=i then j else t)=t;simp (disch:=omega) only[K0],λt k1 k2=>by show a<=(if t=j then i else if t=i then j else t)/\(if t=j then i else if t=i then j else t)<b;split<;>(try split)<;>omega⟩
def kL{α:Type}(c:α->α->Int)(o o':List α)(a b:Nat):Prop:=Mv o o' a b/\cy c o' a b
theorem kL.len{α:Type}{c:α->α->Int}{o o':List α}{a b:Nat}(h:kL c o o' a b):o'.length=o.length:=h.1.len
theorem Xm{α:Type}{P:α->Prop}{cf:α->α->Option Int}{c:α->α->Int}(hc:iz P cf c):∀{l m:List α},(∀x∈l,P x)->l.Perm m->l.Pairwise (λx y=>¬c y x<0)->m.Pairwise (λx y=>¬c y x<0)->l=m
 |[],m,_,h,_,_=>(List.nil_perm.1 h).symm
 |x::s,[],_,h,_,_=>(List.perm_nil.1 h)
 |x::s,y::t,J,h,h1,h2=>by
  have F:x∈y::t:=h.subset aw4;have D:y∈x::s:=h.symm.subset aw4
  have e:x=y:=by
   rcases aw2.1 F with F|F
   ·omega
   ·rcases aw2.1 D with D|D
    ·grind
    ·have g1:=(List.pairwise_cons.1 h1).1 y D;have g2:=(List.pairwise_cons.1 h2).1 x F;exact hc.atp x y (J x aw4) (J y (List.mem_cons_of_mem _ D)) g2 g1
  subst e;rw[Xm hc (by grind) (h.cons_inv) (List.pairwise_cons.1 h1).2 (List.pairwise_cons.1 h2).2]
theorem aiy{α:Type}{c:α->α->Int}{o:List α}(h:cy c o 0 o.length):o.Pairwise (λx y=>¬c y x<0):=by rw[aD6];intro i j F D J;exact h i j _ _ (au2 _) J D (au4 F) (au4 D)
theorem cy.join{α:Type}{c:α->α->Int}{o:List α}{a m b:Nat}(h1:cy c o a m)(h2:cy c o m b)(J:∀i j x y,a<=i->i<m->m<=j->j<b->o[i]? =some x->o[j]? =some y->¬c y x<0):cy c o a b:=by
 intro i j x y g1 g2 g3 D F;by_cases c1:j<m
 ·exact h1 i j x y g1 g2 c1 D F
 ·by_cases c2:i<m
  ·grind
  ·exact h2 i j x y (by omega) g2 g3 D F
theorem cy.same{α:Type}{c:α->α->Int}{o o':List α}{a b:Nat}(h:cy c o a b)(he:∀t,a<=t->t<b->o'[t]? =o[t]?):cy c o' a b:=by
 intro i j x y g1 g2 g3 D F;rw[he i g1 (by omega)]at D
 rw[he j (by omega) g3]at F
 exact h i j x y g1 g2 g3 D F
def dy{α:Type}(p q:Option α):Prop:= ∀r,p=some r->q=some r
theorem dy.refl{α:Type}(p:Option α):dy p p:=λ_ h=>h
theorem dy.bind{α β:Type}{p q:Option α}{k D:α->Option β}(h:dy p q)(hk:∀x,dy (k x) (D x)):dy (p.bind k) (q.bind D):=by intro r F;obtain⟨x,h1,h2⟩:=ay0.1 F;exact ay0.2 ⟨x,h x h1,hk x r h2⟩
theorem dy.J{α:Type}{c:Prop}{_:Decidable c}{p q:Option α}(h:dy p q):dy (J c p) (J c q):=by
 intro r D;by_cases hc:c
 ·rw[ai hc]at D⊢;exact h r D
 ·rw[show Fx.J c p=none from if_neg hc]at D;cases D
theorem dy.cond{α:Type}{b:Bool}{p q D F:Option α}(h1:dy p D)(h2:dy q F):dy (bif b then p else q) (bif b then D else F):=by grind
theorem dy.loop{V R:Type}{f g:V->Option (V⊕R)}(h:f=g)(v:V):dy (ae f v) (ae g v):=by rw[h];exact dy.refl _
variable {α γ:Type} {call:α->α->γ->Option Int}
theorem QN(cmp:γ)(a b n:Nat)(o:List α)(h1:a+n<=b)(h2:b+n<=o.length)(Y:o.length<=100000000):
  ∃o',vI (a:Int) (b:Int) (n:Int) cmp o=some o'/\iS o o' (vm a b n):=by
 have main:=mT (f:=CT)
  (λv=>∃(i:Nat) (D:List α),v=((a:Int),(b:Int),(n:Int),(i:Int),D,())/\i<=n/\iS o D (vm a b i))
  (fun v=>(v.2.2.1-v.2.2.2.1).toNat) (λr=>iS o r.1 (vm a b n)) (λv O=>by
   obtain⟨i,D,rfl,U,hm⟩:=O;have hlen:=hm.len;by_cases c:i<n
   ·have J:b+i<D.length:=by omega
    have F:a+i<D.length:=by omega
    have L:b+i=((b+i:Nat):Int):=rfl;have M:a+i=((a+i:Nat):Int):=rfl;have c1:0<=(b+i)/\(b+i)<D.length:=by omega
    have c2:0<=(a+i)/\(a+i)<D.length:=by omega
    refine .inl ⟨(a,b,n,(i+1),(D.set (a+i) D[b+i]).set (b+i) D[a+i],()),?_,⟨i+1,_,rfl,c,(swap_perm F J).trans hm.1,λt=>?_⟩,?_⟩
    ·simp only[CT,cond_true,L,M,aC (show b+i<=4611686018427387904 by omega),aA9,jl J,jl F]
     rw[jl (by grind)]
     simp (disch:=omega) only[K0]
    ·rw[Fj F J,hm.2];congr 1;unfold vm
     repeat' split
     all_goals omega
    ·show((n:Int)-((i+1):Int)).toNat<((n:Int)-(i:Int)).toNat;omega
   ·have e:i=n:=by omega
    subst e;refine .inr ⟨(D,()),?_,hm⟩;simp[CT,decide_false])
 obtain⟨r,e,N⟩:=main (a,b,n,(0:Int),o,()) ⟨0,o,rfl,au2 _,.refl _,λt=>by
  unfold vm;congr 1;repeat' split
  all_goals omega⟩
 refine⟨r.1,?_,N⟩;unfold vI;rw[show ae CT (a,b,n,0,o,())=some r from e];rfl
theorem apb(cmp:γ)(a m b:Nat)(o:List α)(h1:a<m)(h2:m<b)(h3:b<=o.length)(hl:o.length<=100000000):
  ∃o',vQ (a:Int) (m:Int) (b:Int) cmp o=some o'/\iS o o' (fV a m b):=by
 have main:=mT (f:=vL)
  (λv=>∃(i j:Nat) (D:List α),v=((m:Int),cmp,(i:Int),(j:Int),D,())/\0<i/\0<j/\i<=m-a/\j<=b-m/\D.Perm o/\∀t:Nat,D[fV (m-i) m (m+j) t]? =o[fV a m b t]?)
  (fun v=>(v.2.2.1+v.2.2.2.1).toNat) (λr=>∃(i:Nat) (D:List α),r=((m:Int),cmp,(i:Int),D,())/\0<i/\i<=m-a/\i<=b-m/\D.Perm o/\∀t:Nat,D[fV (m-i) m (m+i) t]? =o[fV a m b t]?) (λv hv=>by
   obtain⟨i,j,D,rfl,U,hj,Y,Z,hp,hm⟩:=hv;have hlen:=hp.length_eq;have N:(m:Int)-(i:Int)=((m-i:Nat):Int):=by omega
   by_cases c:i=j
   ·subst c;refine .inr ⟨_,?_,i,D,rfl,U,Y,Z,hp,hm⟩;simp[vL,decide_true,av2,cond_false]
   ·by_cases c2:j<i
    ·obtain⟨J,M,F⟩:=QN cmp (m-i) m j D (by omega) (by omega) (by omega)
     have L:(i:Int)-(j:Int)=((i-j:Nat):Int):=by omega
     refine .inl ⟨((m:Int),cmp,((i-j:Nat):Int),(j:Int),J,()),?_,⟨i-j,j,J,rfl,by omega,hj,by omega,Z,F.1.trans hp,λt=>?_⟩,?_⟩
     ·simp only[vL,dN (show¬(i:Int)=(j:Int) by omega),aw3,cond_true,dY (show(j:Int)<(i:Int) by omega),N,L,aC (show m-i<=4611686018427387904 by omega),M,at0,aC (show i-j<=4611686018427387904 by omega),ai F.len.symm]
     ·rw[F.2,<-hm];congr 1;unfold vm fV
      repeat' split
      all_goals omega
     ·show(((i-j:Nat):Int)+((j:Nat):Int)).toNat<(((i:Nat):Int)+((j:Nat):Int)).toNat;omega
    ·obtain⟨J,M,F⟩:=QN cmp (m-i) (m+j-i) i D (by omega) (by omega) (by omega)
     have L:(j:Int)-(i:Int)=((j-i:Nat):Int):=by omega
     have O:(m:Int)+(j:Int)=((m+j:Nat):Int):=rfl;have e4:((m+j:Nat):Int)-(i:Int)=((m+j-i:Nat):Int):=by omega
     refine .inl ⟨((m:Int),cmp,(i:Int),((j-i:Nat):Int),J,()),?_,⟨i,j-i,J,rfl,U,by omega,Y,by omega,F.1.trans hp,λt=>?_⟩,?_⟩
     ·simp only[vL,dN (show¬(i:Int)=(j:Int) by omega),aw3,cond_true,cond_false,dN (show¬(j:Int)<(i:Int) by omega),N,O,e4,L,aC (show m-i<=4611686018427387904 by omega),aC (show m+j<=4611686018427387904 by omega),aC (show m+j-i<=4611686018427387904 by omega),M,at0,aC (show j-i<=4611686018427387904 by omega),ai F.len.symm]
     ·rw[F.2,<-hm];congr 1;unfold vm fV
      repeat' split
      all_goals omega
     ·show(((i:Nat):Int)+((j-i:Nat):Int)).toNat<(((i:Nat):Int)+((j:Nat):Int)).toNat;omega)
 obtain⟨r,e,i,D,rfl,U,Y,ah,hp,hm⟩:=main ((m:Int),cmp,((m-a:Nat):Int),((b-m:Nat):Int),o,()) ⟨m-a,b-m,o,rfl,by omega,by omega,at9 _,at9 _,.refl _,λt=>by congr 1;rw[show m-(m-a)=a by omega,show m+(b-m)=b by omega]⟩
 have hlen:=hp.length_eq;obtain⟨J,M,F⟩:=QN cmp (m-i) m i D (by omega) (by omega) (by omega)
 refine⟨J,?_,F.1.trans hp,λt=>?_⟩
 ·unfold vQ;have N:(m:Int)-(a:Int)=((m-a:Nat):Int):=by omega
  have L:(b:Int)-(m:Int)=((b-m:Nat):Int):=by omega
  have O:(m:Int)-(i:Int)=((m-i:Nat):Int):=by omega
  simp (disch:=omega) only[K0,N,L,e,O,M]
 ·rw[F.2,<-hm];congr 1;unfold vm fV
  repeat' split
  all_goals omega
variable {α γ:Type} {call:α->α->γ->Option Int}
theorem amE(cmp:γ){P:α->Prop}{c:α->α->Int}(hc:iz P (λx y=>call x y cmp) c)(a b i:Nat)(o:List α)(hP:∀x∈o,P x)(h1:a<=i)(h2:i<b)(h3:b<=o.length)(hl:o.length<=100000000)(hs:cy c o a i):
  ∃o',ae (tn call) ((a:Int),(b:Int),cmp,(i:Int),(i:Int),o,())=some ((a:Int),(b:Int),cmp,(i:Int),o',())/\Mv o o' a b/\cy c o' a (i+1):=by
 have main:=mT (f:=(tn call))
  (λv=>∃(j:Nat) (J:List α),v=((a:Int),(b:Int),cmp,(i:Int),(j:Int),J,())/\a<=j/\j<=i/\Mv o J a b/\∀p q x y,a<=p->p<q->q<=i->q≠j->J[p]? =some x->J[q]? =some y->¬c y x<0)
  (fun v=>(v.2.2.2.2.1).toNat) (λr=>∃o',r=((a:Int),(b:Int),cmp,(i:Int),o',())/\Mv o o' a b/\cy c o' a (i+1)) (λv hv=>by
   obtain⟨j,J,rfl,hj,ar,hm,N⟩:=hv;have hlen:=hm.len;have Z:=hm.all hP;by_cases d:a<j
   ·have U:j<J.length:=by omega
    have L:j-1<J.length:=by omega
    have e1:j-1=((j-1:Nat):Int):=by omega
    have c1:0<=(j:Int)/\j<(J.length:Int):=by omega
    have c2:0<=((j-1:Nat):Int)/\((j-1:Nat):Int)<J.length:=by omega
    have p0:=Z _ (at2 U);have p1:=Z _ (at2 L);have ah:call J[j] J[j-1] cmp=some (c J[j] J[j-1]):=hc.is _ _ p0 p1;by_cases Y:c J[j] J[j-1]<0
    ·refine .inl ⟨(a,b,cmp,i,((j-1:Nat):Int),(J.set j J[j-1]).set (j-1) J[j],()),?_,⟨j-1,_,rfl,by omega,by omega,hm.trans (aqQ U L (by omega) (by omega) (by omega) (by omega)),?_⟩,?_⟩
     ·simp only[tn,dY (show(a:Int)<j by omega),aA9,ai c1,jl U,e1,aC (show j-1<=4611686018427387904 by omega),ai c2,jl L,ah,at0,dY Y]
      rw[jl (by rw[aA9];exact L)]
      simp[av0]
     ·intro p q x y g1 g2 g3 g4 D F;rw[Fj U L]at D F;by_cases M:q=j
      ·subst M;rw[if_neg (by omega),if_pos rfl]at F
       by_cases O:p=q-1
       ·subst O;rw[if_pos rfl,au4 U]at D;rw[au4 L]at F;injection D with D;injection F with F;subst D;subst F;exact hc.total _ _ p0 p1 Y
       ·simp (disch:=omega) only[K0]at D;exact N p (q-1) x y g1 (by omega) (by omega) (by omega) D F
      ·simp (disch:=omega) only[K0]at F;by_cases O:p=j-1
       ·subst O;rw[if_pos rfl]at D;exact N j q x y (by omega) (by omega) g3 M D F
       ·rw[if_neg O]at D;by_cases e4:p=j
        ·subst e4;rw[if_pos rfl]at D;exact N (p-1) q x y (by omega) (by omega) g3 M D F
        ·rw[if_neg e4]at D;exact N p q x y g1 g2 g3 M D F
     ·show(((j-1:Nat):Int)).toNat<((j:Int)).toNat;omega
    ·refine .inr ⟨_,?_,J,rfl,hm,?_⟩
     ·simp (disch:=omega) only[K0,tn,e1,ah]
     ·intro p q x y g1 g2 g3 D F;by_cases M:q=j
      ·subst M;have az:=F;rw[au4 U]at F;cases F;by_cases O:p=q-1
       ·subst O;rw[au4 L]at D;cases D;exact Y
       ·have:=N p (q-1) x _ g1 (by omega) (by omega) (by omega) D (au4 L)
        exact hc.trans _ _ _ (Z x (az6 D)) p1 p0 this Y
      ·exact N p q x y g1 g2 (by omega) M D F
   ·have e:j=a:=by omega
    subst e;refine .inr ⟨_,?_,J,rfl,hm,?_⟩
    ·simp[tn,decide_false]
    ·intro p q x y g1 g2 g3 D F;exact N p q x y g1 g2 (by omega) (by omega) D F)
 obtain⟨r,e,o',rfl,hm,an⟩:=main (a,b,cmp,i,i,o,()) ⟨i,o,rfl,h1,at9 _,Mv.refl _ _ _,λp q x y g1 g2 g3 g4 D F=>hs p q x y g1 g2 (by omega) D F⟩
 exact⟨o',e,hm,an⟩
theorem Yb(cmp:γ){P:α->Prop}{c:α->α->Int}(hc:iz P (λx y=>call x y cmp) c)(a b:Nat)(o:List α)(J:∀x∈o,P x)(h1:a<=b)(Y:b<=o.length)(hl:o.length<=100000000):
  ∃o',(vF call) (a:Int) (b:Int) cmp o=some o'/\kL c o o' a b:=by
 have main:=mT (f:=(yx call))
  (λv=>∃(i:Nat) (D:List α),v=((a:Int),(b:Int),cmp,(i:Int),D,())/\a+1<=i/\(i<=b\/i=a+1)/\Mv o D a b/\cy c D a i)
  (fun v=>(b-v.2.2.2.1).toNat) (λr=>kL c o r.1 a b) (λv M=>by
   obtain⟨i,D,rfl,Z,ah,hm,hs⟩:=M;have hlen:=hm.len;by_cases d:i<b
   ·obtain⟨F,N,O,U⟩:=amE cmp hc a b i D (hm.all J) (by omega) d (by omega) (by omega) hs
    refine .inl ⟨(a,b,cmp,(i+1),F,()),?_,⟨i+1,F,rfl,by omega,by omega,hm.trans O,U⟩,?_⟩
    ·simp (disch:=omega) only[K0,yx,N]
    ·show(b-((i+1):Int)).toNat<(b-(i:Int)).toNat;omega
   ·refine .inr ⟨(D,()),?_,hm,hs.mono (at9 _) (by omega)⟩
    simp (disch:=omega) only[K0,yx])
 obtain⟨r,e,L⟩:=main (a,b,cmp,((a+1:Nat):Int),o,()) ⟨a+1,o,rfl,at9 _,.inr rfl,Mv.refl _ _ _,cy.none (at9 _)⟩;refine⟨r.1,?_,L⟩;unfold vF;simp (disch:=omega) only[K0,e]
theorem asK(cmp:γ)(rc:Int->Int->Int->γ->List α->Option (List α)){P:α->Prop}{c:α->α->Int}(hc:iz P (λx y=>call x y cmp) c)(a m b:Nat)(o:List α)(L:∀x∈o,P x)(h0:a<m)(h1:m<=b)(h3:b<=o.length)(hl:o.length<=100000000)(z:α)(F:o[a]? =some z):
  ∃i,m<=i/\i<=b/\ae ((tw call) rc) ((a:Int),cmp,(m:Int),(b:Int),o,())=some ((a:Int),(i:Int),o,())/\(i=m\/∃x,o[i-1]? =some x/\c x z<0)/\(i=b\/∃x,o[i]? =some x/\¬c x z<0):=by
 have O:a<o.length:=by omega
 have Y:o[a]=z:=by rw[au4 O]at F;exact Option.some.inj F
 have pz:=L z (az6 F)
 have main:=mT (f:=(tw call) rc)
  (λv=>∃(i j:Nat),v=((a:Int),cmp,(i:Int),(j:Int),o,())/\m<=i/\i<=j/\j<=b/\(i=m\/∃x,o[i-1]? =some x/\c x z<0)/\(j=b\/∃x,o[j]? =some x/\¬c x z<0))
  (fun v=>(v.2.2.2.1-v.2.2.1).toNat) (λr=>∃(i:Nat),r=((a:Int),(i:Int),o,())/\m<=i/\i<=b/\(i=m\/∃x,o[i-1]? =some x/\c x z<0)/\(i=b\/∃x,o[i]? =some x/\¬c x z<0)) (λv U=>by
   obtain⟨i,j,rfl,g1,g2,g3,g4,g5⟩:=U;by_cases d:i<j
   ·have D:(i+j)/2<o.length:=by omega
    have J:=An i j (by omega)
    have c1:0<=((i+j)/2)/\((i+j)/2)<o.length:=by omega
    have c2:0<=a/\a<o.length:=by omega
    have e2:ab .i64 (i+j):=ba (by omega)
    have Z:=L _ (at2 D);have M:call (o[(i+j)/2]) o[a] cmp=some (c (o[(i+j)/2]) z):=by rw[Y];exact hc.is _ _ Z pz
    by_cases N:c (o[(i+j)/2]) z<0
    ·refine .inl ⟨(a,cmp,(((i+j)/2+1:Nat):Int),j,o,()),?_,⟨_,_,rfl,by omega,by omega,g3,.inr ⟨_,by rw[aC1];exact au4 D,N⟩,g5⟩,?_⟩
     ·simp (disch:=omega) only[K0,tw,J,M]
     ·show(j-(((i+j)/2+1):Int)).toNat<(j-(i:Int)).toNat;omega
    ·refine .inl ⟨(a,cmp,i,(((i+j)/2:Nat):Int),o,()),?_,⟨_,_,rfl,g1,by omega,by omega,g4,.inr ⟨_,au4 D,N⟩⟩,?_⟩
     ·simp (disch:=omega) only[K0,tw,J,M]
     ·show(((i+j)/2)-(i:Int)).toNat<(j-(i:Int)).toNat;omega
   ·have e:i=j:=by omega
    subst e;refine .inr ⟨_,?_,i,rfl,g1,g3,g4,g5⟩;simp[tw])
 obtain⟨r,e,i,rfl,g1,g2,g3,g4⟩:=main (a,cmp,m,b,o,()) ⟨m,b,rfl,at9 _,h1,at9 _,.inl rfl,.inl rfl⟩;exact⟨i,g1,g2,e,g3,g4⟩
def mF(a e t:Nat):Nat:=if a<=t/\t<e then t+1 else if t=e then a else t
theorem asJ(rc:Int->Int->Int->γ->List α->Option (List α))(a i:Nat)(o:List α)(h1:a+1<=i)(O:i<=o.length)(Y:o.length<=100000000):
  ∃o',ae (yD rc) ((i:Int),(a:Int),o,())=some (o',())/\iS o o' (mF a (i-1)):=by
 have main:=mT (f:=yD rc)
  (λv=>∃(k:Nat) (D:List α),v=((i:Int),(k:Int),D,())/\a<=k/\k<=i-1/\iS o D (mF a k))
  (fun v=>(v.1-v.2.1).toNat) (λr=>iS o r.1 (mF a (i-1))) (λv N=>by
   obtain⟨k,D,rfl,hk,U,hm⟩:=N;have hlen:=hm.len;have L:i-1=((i-1:Nat):Int):=by omega
   by_cases d:k<i-1
   ·have F:k<D.length:=by omega
    have J:k+1<D.length:=by omega
    have c1:0<=(k:Int)/\k<(D.length:Int):=by omega
    have c2:0<=((k+1:Nat):Int)/\((k+1:Nat):Int)<D.length:=by omega
    refine .inl ⟨(i,(k+1),(D.set k D[k+1]).set (k+1) D[k],()),?_,⟨k+1,_,rfl,by omega,by omega,(swap_perm F J).trans hm.1,λt=>?_⟩,?_⟩
    ·simp only[yD,L,aC (show i-1<=4611686018427387904 by omega),dY (show(k:Int)<((i-1:Nat):Int) by omega),aS,aC (show k+1<=4611686018427387904 by omega),aA9,ai c1,ai c2,jl F,jl J]
     rw[jl (by grind)]
     simp[av0]
    ·rw[Fj F J,hm.2];congr 1;unfold mF
     repeat' split
     all_goals omega
    ·show(i-((k+1):Int)).toNat<(i-(k:Int)).toNat;omega
   ·have e:k=i-1:=by omega
    subst e;refine .inr ⟨(D,()),?_,hm⟩;simp[yD,L,aC (show i-1<=4611686018427387904 by omega)])
 obtain⟨r,e,M⟩:=main (i,a,o,()) ⟨a,o,rfl,at9 _,by omega,.refl _,λt=>by
  congr 1;unfold mF;repeat' split
  all_goals omega⟩
 exact⟨r.1,e,M⟩
theorem asI(cmp:γ)(rc:Int->Int->Int->γ->List α->Option (List α)){P:α->Prop}{c:α->α->Int}(hc:iz P (λx y=>call x y cmp) c)(a m:Nat)(o:List α)(L:∀x∈o,P x)(h1:a<=m)(O:m<o.length)(hl:o.length<=100000000)(z:α)(F:o[m]? =some z):
  ∃i,a<=i/\i<=m/\ae ((tv call) rc) ((m:Int),cmp,(a:Int),(m:Int),o,())=some ((m:Int),(i:Int),o,())/\(i=a\/∃x,o[i-1]? =some x/\¬c z x<0)/\(i=m\/∃x,o[i]? =some x/\c z x<0):=by
 have Y:o[m]=z:=by rw[au4 O]at F;exact Option.some.inj F
 have pz:=L z (az6 F)
 have main:=mT (f:=(tv call) rc)
  (λv=>∃(i j:Nat),v=((m:Int),cmp,(i:Int),(j:Int),o,())/\a<=i/\i<=j/\j<=m/\(i=a\/∃x,o[i-1]? =some x/\¬c z x<0)/\(j=m\/∃x,o[j]? =some x/\c z x<0))
  (fun v=>(v.2.2.2.1-v.2.2.1).toNat) (λr=>∃(i:Nat),r=((m:Int),(i:Int),o,())/\a<=i/\i<=m/\(i=a\/∃x,o[i-1]? =some x/\¬c z x<0)/\(i=m\/∃x,o[i]? =some x/\c z x<0)) (λv U=>by
   obtain⟨i,j,rfl,g1,g2,g3,g4,g5⟩:=U;by_cases d:i<j
   ·have D:(i+j)/2<o.length:=by omega
    have J:=An i j (by omega)
    have c1:0<=((i+j)/2)/\((i+j)/2)<o.length:=by omega
    have c2:0<=m/\m<o.length:=by omega
    have e2:ab .i64 (i+j):=ba (by omega)
    have Z:=L _ (at2 D);have M:call o[m] (o[(i+j)/2]) cmp=some (c z (o[(i+j)/2])):=by rw[Y];exact hc.is _ _ pz Z
    by_cases N:c z (o[(i+j)/2])<0
    ·refine .inl ⟨(m,cmp,i,(((i+j)/2:Nat):Int),o,()),?_,⟨_,_,rfl,g1,by omega,by omega,g4,.inr ⟨_,au4 D,N⟩⟩,?_⟩
     ·simp (disch:=omega) only[K0,tv,J,M]
     ·show(((i+j)/2)-(i:Int)).toNat<(j-(i:Int)).toNat;omega
    ·refine .inl ⟨(m,cmp,(((i+j)/2+1:Nat):Int),j,o,()),?_,⟨_,_,rfl,by omega,by omega,g3,.inr ⟨_,by rw[aC1];exact au4 D,N⟩,g5⟩,?_⟩
     ·simp (disch:=omega) only[K0,tv,J,M]
     ·show(j-(((i+j)/2+1):Int)).toNat<(j-(i:Int)).toNat;omega
   ·have e:i=j:=by omega
    subst e;refine .inr ⟨_,?_,i,rfl,g1,g3,g4,g5⟩;simp[tv])
 obtain⟨r,e,i,rfl,g1,g2,g3,g4⟩:=main (m,cmp,a,m,o,()) ⟨a,m,rfl,at9 _,h1,at9 _,.inl rfl,.inl rfl⟩;exact⟨i,g1,g2,e,g3,g4⟩
def mv(i m t:Nat):Nat:=if i<t/\t<=m then t-1 else if t=i then m else t
theorem asH(rc:Int->Int->Int->γ->List α->Option (List α))(i m:Nat)(o:List α)(h1:i<=m)(O:m<o.length)(Y:o.length<=100000000):
  ∃o',ae (yC rc) ((i:Int),(m:Int),o,())=some (o',())/\iS o o' (mv i m):=by
 have main:=mT (f:=yC rc)
  (λv=>∃(k:Nat) (D:List α),v=((i:Int),(k:Int),D,())/\i<=k/\k<=m/\iS o D (mv k m))
  (fun v=>(v.2.1).toNat) (λr=>iS o r.1 (mv i m)) (λv N=>by
   obtain⟨k,D,rfl,hk,U,hm⟩:=N;have hlen:=hm.len;by_cases d:i<k
   ·have F:k<D.length:=by omega
    have J:k-1<D.length:=by omega
    have L:k-1=((k-1:Nat):Int):=by omega
    have c1:0<=(k:Int)/\k<(D.length:Int):=by omega
    have c2:0<=((k-1:Nat):Int)/\((k-1:Nat):Int)<D.length:=by omega
    refine .inl ⟨(i,((k-1:Nat):Int),(D.set k D[k-1]).set (k-1) D[k],()),?_,⟨k-1,_,rfl,by omega,by omega,(swap_perm F J).trans hm.1,λt=>?_⟩,?_⟩
    ·simp only[yC,L,aC (show k-1<=4611686018427387904 by omega),dY (show(i:Int)<k by omega),aA9,ai c1,ai c2,jl F,jl J]
     rw[jl (by grind)]
     simp[av0]
    ·rw[Fj F J,hm.2];congr 1;unfold mv
     repeat' split
     all_goals omega
    ·show(((k-1:Nat):Int)).toNat<((k:Int)).toNat;omega
   ·have e:k=i:=by omega
    subst e;refine .inr ⟨(D,()),?_,hm⟩;simp[yC])
 obtain⟨r,e,M⟩:=main (i,m,o,()) ⟨m,o,rfl,h1,at9 _,.refl _,λt=>by
  congr 1;unfold mv;repeat' split
  all_goals omega⟩
 exact⟨r.1,e,M⟩
section
variable {α:Type} {P:α->Prop} {cf:α->α->Option Int} {c:α->α->Int}
theorem adw{s m e t:Nat}(h:t<s):fV s m e t=t:=by grind[fV]
theorem adu{s m e t:Nat}(h1:s<=t)(h2:t<s+(e-m)):fV s m e t=t+(m-s):=by grind[fV]
theorem Uv{s m e t:Nat}(h1:s+(e-m)<=t)(h2:t<e):fV s m e t=t-(e-m):=by grind[fV]
theorem Uu{s m e t:Nat}(h0:s+(e-m)<=e)(h:e<=t):fV s m e t=t:=by grind[fV]
def Hv(c:α->α->Int)(o:List α)(i j:Nat):Prop:= ∃x y,o[i]? =some x/\o[j]? =some y/\c x y<0
def Hw(c:α->α->Int)(o:List α)(i j:Nat):Prop:= ∃x y,o[i]? =some x/\o[j]? =some y/\¬c x y<0
theorem ao0(hc:iz P cf c){o M:List α}(Y:∀x∈o,P x){a m b s e mid:Nat}(h1:a<m)(h2:m<b)(h3:b<=o.length)(he:e+s=mid+m)(ah:a<=s)(aE:s<=m)(an:m<=e)(ar:e<=b)(az:s<=mid/\mid<=e)
  (S1:cy c o a m) (O:cy c o m b)
  (hA:(a=s\/e=b)\/Hw c o e (s-1))
  (U:(e=m\/s=m)\/Hv c o (e-1) s)
  (L:iS o M (fV s m e)):
  Mv o M a b/\cy c M a s/\cy c M s mid/\cy c M mid e/\cy c M e b/\(∀i j x y,a<=i->i<mid->mid<=j->j<b->M[i]? =some x->M[j]? =some y->¬c y x<0):=by
 have J:∀{i:Nat} {x:α},o[i]? =some x->P x:=λh=>Y _ (az6 h);refine⟨Mv.of L (λt ht=>?_) (λt k1 k2=>?_),?_,?_,?_,?_,?_⟩
 ·grind[fV,L.2]
 ·grind[fV,L.2]
 ·intro i j x y g1 g2 g3 F D;rw[L.2,adw (by omega)]at F D
  exact S1 i j x y g1 g2 (by omega) F D
 ·intro i j x y g1 g2 g3 F D;rw[L.2,adu (by omega) (by omega)]at F D
  exact O _ _ x y (by omega) (by omega) (by omega) F D
 ·intro i j x y g1 g2 g3 F D;rw[L.2,Uv (by omega) (by omega)]at F D
  exact S1 _ _ x y (by omega) (by omega) (by omega) F D
 ·intro i j x y g1 g2 g3 F D;rw[L.2,Uu (by omega) (by omega)]at F D
  exact O _ _ x y (by omega) (by omega) (by omega) F D
 ·intro i j x y g1 g2 g3 g4 F D;by_cases d1:i<s
  ·rw[L.2,adw d1]at F;by_cases d2:j<e
   ·rw[L.2,Uv (by omega) d2]at D
    exact S1 _ _ x y g1 (by omega) (by omega) F D
   ·rw[L.2,Uu (by omega) (by omega)]at D
    rcases hA with(hA|hA)|⟨u,v,hu,N,hA⟩
    ·omega
    ·omega
    ·have Z:=S1.le hc Y g1 (show i<=s-1 by omega) (by omega) F N
     have q2:=O.le hc Y (show m<=e by omega) (show e<=j by omega) g4 hu D
     exact hc.trans x v y (J F) (J N) (J D) Z (hc.trans v u y (J N) (J hu) (J D) hA q2)
  ·rw[L.2,adu (by omega) (by omega)]at F
   by_cases d2:j<e
   ·rw[L.2,Uv (by omega) d2]at D
    rcases U with(U|U)|⟨u,v,hu,N,U⟩
    ·omega
    ·omega
    ·have Z:=O.le hc Y (show m<=i+(m-s) by omega) (show i+(m-s)<=e-1 by omega) (by omega) F hu
     have q2:=S1.le hc Y ah (show s<=j-(e-m) by omega) (by omega) N D
     have q3:=hc.total u v (J hu) (J N) U;exact hc.trans x u y (J F) (J hu) (J D) Z (hc.trans u v y (J hu) (J N) (J D) q3 q2)
   ·rw[L.2,Uu (by omega) (by omega)]at D
    exact O _ _ x y (by omega) (by omega) g4 F D
theorem aqO{o D L M:List α}{a mid b:Nat}(h1:a<=mid)(h2:mid<=b)(hm:Mv o D a b)
  (O:∀i j x y,a<=i->i<mid->mid<=j->j<b->D[i]? =some x->D[j]? =some y->¬c y x<0)
  (m1:kL c D L a mid) (m2:kL c L M mid b):kL c o M a b:=by
 refine⟨hm.trans ((m1.1.mono (at9 _) h2).trans (m2.1.mono h1 (at9 _))),?_⟩;refine cy.join (m:=mid) (m1.2.same λt k1 k2=>m2.1.out (.inl k2)) m2.2 ?_;intro i j x y g1 g2 g3 g4 F J;rw[m2.1.out (.inl g2)]at F;obtain⟨U,Z,q2,q3⟩:=m1.1.inn g1 g2;obtain⟨Y,N,r2,r3⟩:=m2.1.inn g3 g4;rw[q3]at F;rw[r3,m1.1.out (.inr N)]at J;exact O U Y x y Z q2 N r2 F J
theorem asg(hc:iz P cf c){o o2:List α}(U:∀x∈o,P x){a m b i:Nat}(hm:m=a+1)(h2:m<=i)(h3:i<=b)(h4:b<=o.length)(L:cy c o m b){z:α}(M:o[a]? =some z)
  (hA:i=m\/∃x,o[i-1]? =some x/\c x z<0) (N:i=b\/∃x,o[i]? =some x/\¬c x z<0) (Z:iS o o2 (mF a (i-1))):kL c o o2 a b:=by
 have J:∀{i:Nat} {x:α},o[i]? =some x->P x:=λh=>U _ (az6 h);refine⟨Mv.of Z (λt ht=>?_) (λt k1 k2=>?_),?_⟩
 ·unfold mF;repeat' split
  all_goals omega
 ·unfold mF;repeat' split
  all_goals omega
 ·have u1:∀{t},a<=t->t<i-1->mF a (i-1) t=t+1:=λg1 g2=>by unfold mF;rw[if_pos ⟨g1,g2⟩]
  have u2:mF a (i-1) (i-1)=a:=by unfold mF;rw[if_neg (by omega),if_pos rfl]
  have O:∀{t},i<=t->mF a (i-1) t=t:=λg=>by unfold mF;rw[if_neg (by omega),if_neg (by omega)]
  intro p q x y g1 g2 g3 F D;rw[Z.2]at F D;by_cases d1:p<i-1
  ·rw[u1 g1 d1]at F;by_cases d2:q<i-1
   ·rw[u1 (by omega) d2]at D
    exact L _ _ x y (by omega) (by omega) (by omega) F D
   ·by_cases d3:q=i-1
    ·subst d3;rw[u2,M]at D;injection D with D;subst D;rcases hA with hA|⟨u,hu,hA⟩
     ·omega
     ·have Y:=L.le hc U (show m<=p+1 by omega) (show p+1<=i-1 by omega) (by omega) F hu
      exact hc.trans x u z (J F) (J hu) (J M) Y (hc.total u z (J hu) (J M) hA)
    ·rw[O (by omega)]at D
     exact L _ _ x y (by omega) (by omega) g3 F D
  ·by_cases d3:p=i-1
   ·subst d3;rw[u2,M]at F;injection F with F;subst F;rw[O (by omega)]at D
    rcases N with N|⟨u,hu,N⟩
    ·omega
    ·have Y:=L.le hc U h2 (show i<=q by omega) g3 hu D
     exact hc.trans z u y (J M) (J hu) (J D) N Y
   ·rw[O (by omega)]at F
    rw[O (by omega)]at D
    exact L _ _ x y (by omega) (by omega) g3 F D
theorem apV(hc:iz P cf c){o Z:List α}(O:∀x∈o,P x){a m b i:Nat}(hm:b=m+1)(h1:a<=i)(h2:i<=m)(h4:b<=o.length)(S1:cy c o a m){z:α}(L:o[m]? =some z)
  (hA:i=a\/∃x,o[i-1]? =some x/\¬c z x<0) (M:i=m\/∃x,o[i]? =some x/\c z x<0) (Y:iS o Z (mv i m)):kL c o Z a b:=by
 have J:∀{i:Nat} {x:α},o[i]? =some x->P x:=λh=>O _ (az6 h);refine⟨Mv.of Y (λt ht=>?_) (λt k1 k2=>?_),?_⟩
 ·unfold mv;repeat' split
  all_goals omega
 ·unfold mv;repeat' split
  all_goals omega
 ·have N: ∀{t},i<t->t<=m->mv i m t=t-1:=λg1 g2=>by unfold mv;rw[if_pos ⟨g1,g2⟩]
  have u2:mv i m i=m:=by unfold mv;rw[if_neg (by omega),if_pos rfl]
  have u3:∀{t},t<i->mv i m t=t:=λg=>by unfold mv;rw[if_neg (by omega),if_neg (by omega)]
  intro p q x y g1 g2 g3 F D;rw[Y.2]at F D;by_cases d1:i<p
  ·rw[N d1 (by omega)]at F
   rw[N (by omega) (by omega)]at D
   exact S1 _ _ x y (by omega) (by omega) (by omega) F D
  ·by_cases d2:p=i
   ·subst d2;rw[u2,L]at F;injection F with F;subst F;rw[N (by omega) (by omega)]at D
    rcases M with M|⟨u,hu,M⟩
    ·omega
    ·have U:=S1.le hc O h1 (show p<=q-1 by omega) (by omega) hu D
     exact hc.trans z u y (J L) (J hu) (J D) (hc.total z u (J L) (J hu) M) U
   ·rw[u3 (by omega)]at F
    by_cases d3:i<q
    ·rw[N d3 (by omega)]at D
     exact S1 _ _ x y g1 (by omega) (by omega) F D
    ·by_cases d4:q=i
     ·subst d4;rw[u2,L]at D;injection D with D;subst D;rcases hA with hA|⟨u,hu,hA⟩
      ·omega
      ·have U:=S1.le hc O g1 (show p<=q-1 by omega) (by omega) F hu
       exact hc.trans x u z (J F) (J hu) (J L) U hA
     ·rw[u3 (by omega)]at D
      exact S1 _ _ x y g1 (by omega) (by omega) F D
end
variable {α γ:Type} {call:α->α->γ->Option Int}
theorem acZ(cmp:γ)(rc:Int->Int->Int->γ->List α->Option (List α)){P:α->Prop}{c:α->α->Int}(hc:iz P (λx y=>call x y cmp) c)(J L M N O:Int)(F D p:Nat)(o:List α)(hP:∀x∈o,P x)(h0:F<=D)(hb:∀k,F<=k->k<D->k<=p/\p-k<o.length/\k<o.length)(hp:p<=200000000)(hl:o.length<=100000000):
  ∃i,F<=i/\i<=D/\ae ((oT call) rc) (J,L,M,cmp,N,O,(F:Int),(D:Int),(p:Int),o,())=some (J,L,M,cmp,N,O,(i:Int),o,())/\
   (i=F\/Hw c o (p-(i-1)) (i-1))/\(i=D\/Hv c o (p-i) i):=by
 have main:=mT (f:=(oT call) rc)
  (λv=>∃(i j:Nat),v=(J,L,M,cmp,N,O,(i:Int),(j:Int),(p:Int),o,())/\F<=i/\i<=j/\j<=D/\(i=F\/Hw c o (p-(i-1)) (i-1))/\(j=D\/Hv c o (p-j) j))
  (fun v=>(v.2.2.2.2.2.2.2.1-v.2.2.2.2.2.2.1).toNat) (λr=>∃(i:Nat),r=(J,L,M,cmp,N,O,(i:Int),o,())/\F<=i/\i<=D/\(i=F\/Hw c o (p-(i-1)) (i-1))/\(i=D\/Hv c o (p-i) i)) (λv hv=>by
   obtain⟨i,j,rfl,g1,g2,g3,g4,g5⟩:=hv;by_cases d:i<j
   ·obtain⟨b1,U,Y⟩:=hb ((i+j)/2) (by omega) (by omega)
    have Z:=An i j (by omega)
    have e2:p-(((i+j)/2:Nat):Int)=((p-(i+j)/2:Nat):Int):=by omega
    have c1:0<=((i+j)/2)/\((i+j)/2)<o.length:=by omega
    have c2:0<=(p-(i+j)/2)/\(p-(i+j)/2)<o.length:=by omega
    have e3:ab .i64 (i+j):=ba (by omega)
    have ah:=hc.is _ _ (hP _ (at2 U)) (hP _ (at2 Y));by_cases an:c (o[p-(i+j)/2]) (o[(i+j)/2])<0
    ·refine .inl ⟨(J,L,M,cmp,N,O,i,(((i+j)/2:Nat):Int),p,o,()),?_,⟨_,_,rfl,g1,by omega,by omega,g4,.inr ⟨_,_,au4 U,au4 Y,an⟩⟩,?_⟩
     ·simp (disch:=omega) only[K0,oT,Z,e2,ah]
     ·show(((i+j)/2)-(i:Int)).toNat<(j-(i:Int)).toNat;omega
    ·refine .inl ⟨(J,L,M,cmp,N,O,(((i+j)/2+1:Nat):Int),j,p,o,()),?_,⟨_,_,rfl,by omega,by omega,g3,.inr ⟨_,_,by rw[aC1];exact au4 U,by rw[aC1];exact au4 Y,an⟩,g5⟩,?_⟩
     ·simp (disch:=omega) only[K0,oT,Z,e2,ah]
     ·show(j-(((i+j)/2+1):Int)).toNat<(j-(i:Int)).toNat;omega
   ·have e:i=j:=by omega
    subst e;refine .inr ⟨_,?_,i,rfl,g1,g3,g4,g5⟩;simp[oT])
 obtain⟨r,e,i,rfl,g1,g2,g3,g4⟩:=main (J,L,M,cmp,N,O,F,D,p,o,()) ⟨F,D,rfl,at9 _,h0,at9 _,.inl rfl,.inl rfl⟩;exact⟨i,g1,g2,e,g3,g4⟩
structure OA(P:α->Prop)(c:α->α->Int)(a m b:Nat)(o:List α):Prop where
 am:a<m
 mb:m<b
 bl:b<=o.length
 ol:o.length<=100000000
 all:∀x∈o,P x
 s1:cy c o a m
 s2:cy c o m b
set_option maxHeartbeats 1000000 in
theorem anl (cmp:γ) (rc:Int->Int->Int->γ->List α->Option (List α)) {P:α->Prop} {c:α->α->Int} (hc:iz P (λx y=>call x y cmp) c) (n:Nat)
  (IH:∀a m b o,b-a<=n->OA P c a m b o->∃o',rc (a:Int) (m:Int) (b:Int) cmp o=some o'/\kL c o o' a b)
  (a m b:Nat) (o:List α) (hn:b-a<=n+1) (h:OA P c a m b o):∃o',(CY call) rc (a:Int) (m:Int) (b:Int) cmp o=some o'/\kL c o o' a b:=by
 obtain⟨h1,h2,h3,hl,hP,S1,S2⟩:=h;have e1:(m:Int)-(a:Int)=((m-a:Nat):Int):=by omega
 have e2:(b:Int)-(m:Int)=((b-m:Nat):Int):=by omega
 unfold CY;rw[e1,aC (show m-a<=4611686018427387904 by omega)]
 by_cases k1:m-a=1
 ·rw[dY (show((m-a:Nat):Int)=1 by omega),cond_true]
  have ha:a<o.length:=by omega
  obtain⟨i,q1,q2,q3,Y,Z⟩:=asK cmp rc hc a m b o hP h1 (by omega) h3 hl o[a] (au4 ha)
  obtain⟨o',r1,r2⟩:=asJ rc a i o (by omega) (by omega) hl
  refine⟨o',?_,asg hc hP (by omega) q1 q2 h3 S2 (au4 ha) Y Z r2⟩
  simp only[q3,at0,r1]
 ·rw[dN (show¬((m-a:Nat):Int)=1 by omega),cond_false,e2,aC (show b-m<=4611686018427387904 by omega)]
  by_cases k2:b-m=1
  ·rw[dY (show((b-m:Nat):Int)=1 by omega),cond_true]
   have ha:m<o.length:=by omega
   obtain⟨i,q1,q2,q3,Y,Z⟩:=asI cmp rc hc a m o hP (by omega) ha hl o[m] (au4 ha)
   obtain⟨o',r1,r2⟩:=asH rc i m o (by omega) (by omega) hl
   refine⟨o',?_,apV hc hP (by omega) q1 q2 h3 S1 (au4 ha) Y Z r2⟩
   simp only[q3,at0,r1]
  ·rw[dN (show¬((b-m:Nat):Int)=1 by omega),cond_false]
   have eh:=An a b (by omega)
   have aE:∃mid,mid=(a+b)/2:=⟨_,rfl⟩;obtain⟨mid,a1⟩:=aE;rw[<-a1]at eh;have e3:ab .i64 ((a:Int)+(b:Int)):=ba (by omega)
   have e4:((mid:Nat):Int)+(m:Int)=((mid+m:Nat):Int):=rfl;have e5:((mid+m:Nat):Int)-1=((mid+m-1:Nat):Int):=by omega
   simp only[ai e3,ai (show(0:Int)<=1 by decide),eh,e4,aC (show mid+m<=4611686018427387904 by omega),e5,aC (show mid+m-1<=4611686018427387904 by omega)]
   have key:∃s:Nat,a<=s/\s<=m/\m+s<=mid+m/\mid+m<=b+s/\s<=mid/\
     ((a=s\/mid+m-s=b)\/Hw c o (mid+m-s) (s-1))/\
     ((mid+m-s=m\/s=m)\/Hv c o (mid+m-s-1) s)/\
     ((mid<m/\ae ((oT call) rc) ((a:Int),(m:Int),(b:Int),cmp,(mid:Int),((mid+m:Nat):Int),((mid+m-b:Nat):Int),(mid:Int),((mid+m-1:Nat):Int),o,())=some ((a:Int),(m:Int),(b:Int),cmp,(mid:Int),((mid+m:Nat):Int),(s:Int),o,()))\/
      (¬mid<m/\ae ((oT call) rc) ((a:Int),(m:Int),(b:Int),cmp,(mid:Int),((mid+m:Nat):Int),(a:Int),(m:Int),((mid+m-1:Nat):Int),o,())=some ((a:Int),(m:Int),(b:Int),cmp,(mid:Int),((mid+m:Nat):Int),(s:Int),o,()))):=by
    by_cases hm:mid<m
    ·obtain⟨s,q1,q2,q3,Y,Z⟩:=acZ cmp rc hc (a:Int) (m:Int) (b:Int) (mid:Int) ((mid+m:Nat):Int) (mid+m-b) mid (mid+m-1) o hP (by omega) (λk k1 k2=>by omega) (by omega) hl
     refine⟨s,by omega,by omega,by omega,by omega,by omega,?_,?_,.inl ⟨hm,q3⟩⟩
     ·rcases Y with Y|Y
      ·exact .inl (.inr (by omega))
      ·by_cases z0:s=mid+m-b
       ·exact .inl (.inr (by omega))
       ·exact .inr (by rw[show mid+m-s=mid+m-1-(s-1) by omega];exact Y)
     ·rcases Z with Z|Z
      ·exact .inl (.inl (by omega))
      ·exact .inr (by rw[show mid+m-s-1=mid+m-1-s by omega];exact Z)
    ·obtain⟨s,q1,q2,q3,Y,Z⟩:=acZ cmp rc hc (a:Int) (m:Int) (b:Int) (mid:Int) ((mid+m:Nat):Int) a m (mid+m-1) o hP (by omega) (λk k1 k2=>by omega) (by omega) hl
     refine⟨s,by omega,by omega,by omega,by omega,by omega,?_,?_,.inr ⟨hm,q3⟩⟩
     ·rcases Y with Y|Y
      ·exact .inl (.inl (by omega))
      ·by_cases z0:s=a
       ·exact .inl (.inl (by omega))
       ·exact .inr (by rw[show mid+m-s=mid+m-1-(s-1) by omega];exact Y)
     ·rcases Z with Z|Z
      ·exact .inl (.inr (by omega))
      ·exact .inr (by rw[show mid+m-s-1=mid+m-1-s by omega];exact Z)
   obtain⟨s,g1,g2,g3,g4,g5,hA,hB,hS⟩:=key;have e6:((mid+m:Nat):Int)-(s:Int)=((mid+m-s:Nat):Int):=by omega
   have ah:∃e,e=mid+m-s:=⟨_,rfl⟩;obtain⟨e,ah⟩:=ah;rw[<-ah]at e6 hA hB
   have an:(∃O,s<m/\m<e/\vQ (s:Int) (m:Int) (e:Int) cmp o=some O/\iS o O (fV s m e))\/(¬s<m/\iS o o (fV s m e))\/(s<m/\¬m<e/\iS o o (fV s m e)):=by
    by_cases d1:s<m
    ·by_cases d2:m<e
     ·obtain⟨O,r1,r2⟩:=apb cmp s m e o d1 d2 (by omega) hl
      exact .inl ⟨O,d1,d2,r1,r2⟩
     ·refine .inr (.inr ⟨d1,d2,.refl _,λt=>?_⟩);congr 1;unfold fV;repeat' split
      all_goals omega
    ·refine .inr (.inl ⟨d1,.refl _,λt=>?_⟩);congr 1;unfold fV;repeat' split
     all_goals omega
   have rest:∀O,iS o O (fV s m e)->∃F M,((a<s/\s<mid/\rc (a:Int) (s:Int) (mid:Int) cmp O=some F)\/(¬a<s/\F=O)\/(a<s/\¬s<mid/\F=O))/\
     ((mid<e/\e<b/\rc (mid:Int) (e:Int) (b:Int) cmp F=some M)\/(¬mid<e/\M=F)\/(mid<e/\¬e<b/\M=F))/\O.length=o.length/\F.length=O.length/\kL c o M a b:=by
    intro O U;obtain⟨w1,w2,w3,w4,w5,w6⟩:=ao0 (mid:=mid) hc hP h1 h2 h3 (by omega) g1 g2 (by omega) (by omega) (by omega) S1 S2 hA hB U
    have ar:=w1.len
    have p1:∃F,((a<s/\s<mid/\rc (a:Int) (s:Int) (mid:Int) cmp O=some F)\/(¬a<s/\F=O)\/(a<s/\¬s<mid/\F=O))/\kL c O F a mid:=by
     by_cases d1:a<s
     ·by_cases d2:s<mid
      ·obtain⟨F,r1,r2⟩:=IH a s mid O (by omega) ⟨d1,d2,by omega,by omega,w1.all hP,w2,w3⟩
       exact⟨F,.inl ⟨d1,d2,r1⟩,r2⟩
      ·have:s=mid:=by omega
       exact⟨O,.inr (.inr ⟨d1,d2,rfl⟩),Mv.refl _ _ _,by rw[<-this];exact w2⟩
     ·have:s=a:=by omega
      exact⟨O,.inr (.inl ⟨d1,rfl⟩),Mv.refl _ _ _,by rw[<-this];exact w3⟩
    obtain⟨F,a3,m3⟩:=p1;have az:=m3.1.len;have s4:cy c F mid e:=w4.same λt k1 k2=>m3.1.out (.inr k1);have s5:cy c F e b:=w5.same λt k1 k2=>m3.1.out (.inr (by omega))
    have p2:∃M,((mid<e/\e<b/\rc (mid:Int) (e:Int) (b:Int) cmp F=some M)\/(¬mid<e/\M=F)\/(mid<e/\¬e<b/\M=F))/\kL c F M mid b:=by
     by_cases d1:mid<e
     ·by_cases d2:e<b
      ·obtain⟨M,r1,r2⟩:=IH mid e b F (by omega) ⟨d1,d2,by omega,by omega,m3.1.all (w1.all hP),s4,s5⟩
       exact⟨M,.inl ⟨d1,d2,r1⟩,r2⟩
      ·have:e=b:=by omega
       exact⟨F,.inr (.inr ⟨d1,d2,rfl⟩),Mv.refl _ _ _,by rw[<-this];exact s4⟩
     ·have:mid=e:=by omega
      exact⟨F,.inr (.inl ⟨d1,rfl⟩),Mv.refl _ _ _,by rw[this];exact s5⟩
    obtain⟨M,a4,m4⟩:=p2;exact⟨F,M,a3,a4,ar,az,aqO (by omega) (by omega) w1 w6 m3 m4⟩
   have cs:∀{x y:Nat},x<y->∀i,@decide ((x:Int)<(y:Int)) i=true:=λh i=>dY (by omega) i
   have cn:∀{x y:Nat},¬x<y->∀i,@decide ((x:Int)<(y:Int)) i=false:=λh i=>dN (by omega) i
   have ek:J (ab .i64 ((e:Nat):Int))=λ(q:Option (List α))=>q:=by funext q;exact aC (by omega)
   rcases hS with⟨hm,hS⟩|⟨hm,hS⟩
   ·have e7:((mid+m:Nat):Int)-(b:Int)=((mid+m-b:Nat):Int):=by omega
    simp only[cs hm,cond_true,e7,aC (show mid+m-b<=4611686018427387904 by omega),hS,at0,e6,ek]
    rcases an with⟨O,d1,d2,r1,U⟩|⟨d1,U⟩|⟨d1,d2,U⟩
    ·obtain⟨F,M,a3,a4,L,N,hf⟩:=rest _ U;refine⟨M,?_,hf⟩;simp only[cs d1,cs d2,cond_true,r1,at0];rcases a3 with⟨d3,d4,r3⟩|⟨d3,rfl⟩|⟨d3,d4,rfl⟩
     ·simp only[cs d3,cs d4,cond_true,ai L.symm,r3,at0];rcases a4 with⟨d5,d6,D⟩|⟨d5,rfl⟩|⟨d5,d6,rfl⟩
      ·simp only[cs d5,cs d6,cond_true,ai N.symm,ai L.symm,D,at0]
      ·simp only[cn d5,cond_false]
      ·simp only[cs d5,cond_true,cn d6,cond_false]
     ·simp only[cn d3,cond_false];rcases a4 with⟨d5,d6,D⟩|⟨d5,rfl⟩|⟨d5,d6,rfl⟩
      ·simp only[cs d5,cs d6,cond_true,ai N.symm,ai L.symm,D,at0]
      ·simp only[cn d5,cond_false]
      ·simp only[cs d5,cond_true,cn d6,cond_false]
     ·simp only[cs d3,cond_true,cn d4,cond_false];rcases a4 with⟨d5,d6,D⟩|⟨d5,rfl⟩|⟨d5,d6,rfl⟩
      ·simp only[cs d5,cs d6,cond_true,ai N.symm,ai L.symm,D,at0]
      ·simp only[cn d5,cond_false]
      ·simp only[cs d5,cond_true,cn d6,cond_false]
    ·obtain⟨F,M,a3,a4,L,N,hf⟩:=rest _ U;refine⟨M,?_,hf⟩;simp only[cn d1,cond_false];rcases a3 with⟨d3,d4,r3⟩|⟨d3,rfl⟩|⟨d3,d4,rfl⟩
     ·simp only[cs d3,cs d4,cond_true,ai L.symm,r3,at0];rcases a4 with⟨d5,d6,D⟩|⟨d5,rfl⟩|⟨d5,d6,rfl⟩
      ·simp only[cs d5,cs d6,cond_true,ai N.symm,ai L.symm,D,at0]
      ·simp only[cn d5,cond_false]
      ·simp only[cs d5,cond_true,cn d6,cond_false]
     ·simp only[cn d3,cond_false];rcases a4 with⟨d5,d6,D⟩|⟨d5,rfl⟩|⟨d5,d6,rfl⟩
      ·simp only[cs d5,cs d6,cond_true,ai N.symm,ai L.symm,D,at0]
      ·simp only[cn d5,cond_false]
      ·simp only[cs d5,cond_true,cn d6,cond_false]
     ·simp only[cs d3,cond_true,cn d4,cond_false];rcases a4 with⟨d5,d6,D⟩|⟨d5,rfl⟩|⟨d5,d6,rfl⟩
      ·simp only[cs d5,cs d6,cond_true,ai N.symm,ai L.symm,D,at0]
      ·simp only[cn d5,cond_false]
      ·simp only[cs d5,cond_true,cn d6,cond_false]
    ·obtain⟨F,M,a3,a4,L,N,hf⟩:=rest _ U;refine⟨M,?_,hf⟩;simp only[cs d1,cond_true,cn d2,cond_false];rcases a3 with⟨d3,d4,r3⟩|⟨d3,rfl⟩|⟨d3,d4,rfl⟩
     ·simp only[cs d3,cs d4,cond_true,ai L.symm,r3,at0];rcases a4 with⟨d5,d6,D⟩|⟨d5,rfl⟩|⟨d5,d6,rfl⟩
      ·simp only[cs d5,cs d6,cond_true,ai N.symm,ai L.symm,D,at0]
      ·simp only[cn d5,cond_false]
      ·simp only[cs d5,cond_true,cn d6,cond_false]
     ·simp only[cn d3,cond_false];rcases a4 with⟨d5,d6,D⟩|⟨d5,rfl⟩|⟨d5,d6,rfl⟩
      ·simp only[cs d5,cs d6,cond_true,ai N.symm,ai L.symm,D,at0]
      ·simp only[cn d5,cond_false]
      ·simp only[cs d5,cond_true,cn d6,cond_false]
     ·simp only[cs d3,cond_true,cn d4,cond_false];rcases a4 with⟨d5,d6,D⟩|⟨d5,rfl⟩|⟨d5,d6,rfl⟩
      ·simp only[cs d5,cs d6,cond_true,ai N.symm,ai L.symm,D,at0]
      ·simp only[cn d5,cond_false]
      ·simp only[cs d5,cond_true,cn d6,cond_false]
   ·simp only[cn hm,cond_false,hS,at0,e6,ek];rcases an with⟨O,d1,d2,r1,U⟩|⟨d1,U⟩|⟨d1,d2,U⟩
    ·obtain⟨F,M,a3,a4,L,N,hf⟩:=rest _ U;refine⟨M,?_,hf⟩;simp only[cs d1,cs d2,cond_true,r1,at0];rcases a3 with⟨d3,d4,r3⟩|⟨d3,rfl⟩|⟨d3,d4,rfl⟩
     ·simp only[cs d3,cs d4,cond_true,ai L.symm,r3,at0];rcases a4 with⟨d5,d6,D⟩|⟨d5,rfl⟩|⟨d5,d6,rfl⟩
      ·simp only[cs d5,cs d6,cond_true,ai N.symm,ai L.symm,D,at0]
      ·simp only[cn d5,cond_false]
      ·simp only[cs d5,cond_true,cn d6,cond_false]
     ·simp only[cn d3,cond_false];rcases a4 with⟨d5,d6,D⟩|⟨d5,rfl⟩|⟨d5,d6,rfl⟩
      ·simp only[cs d5,cs d6,cond_true,ai N.symm,ai L.symm,D,at0]
      ·simp only[cn d5,cond_false]
      ·simp only[cs d5,cond_true,cn d6,cond_false]
     ·simp only[cs d3,cond_true,cn d4,cond_false];rcases a4 with⟨d5,d6,D⟩|⟨d5,rfl⟩|⟨d5,d6,rfl⟩
      ·simp only[cs d5,cs d6,cond_true,ai N.symm,ai L.symm,D,at0]
      ·simp only[cn d5,cond_false]
      ·simp only[cs d5,cond_true,cn d6,cond_false]
    ·obtain⟨F,M,a3,a4,L,N,hf⟩:=rest _ U;refine⟨M,?_,hf⟩;simp only[cn d1,cond_false];rcases a3 with⟨d3,d4,r3⟩|⟨d3,rfl⟩|⟨d3,d4,rfl⟩
     ·simp only[cs d3,cs d4,cond_true,ai L.symm,r3,at0];rcases a4 with⟨d5,d6,D⟩|⟨d5,rfl⟩|⟨d5,d6,rfl⟩
      ·simp only[cs d5,cs d6,cond_true,ai N.symm,ai L.symm,D,at0]
      ·simp only[cn d5,cond_false]
      ·simp only[cs d5,cond_true,cn d6,cond_false]
     ·simp only[cn d3,cond_false];rcases a4 with⟨d5,d6,D⟩|⟨d5,rfl⟩|⟨d5,d6,rfl⟩
      ·simp only[cs d5,cs d6,cond_true,ai N.symm,ai L.symm,D,at0]
      ·simp only[cn d5,cond_false]
      ·simp only[cs d5,cond_true,cn d6,cond_false]
     ·simp only[cs d3,cond_true,cn d4,cond_false];rcases a4 with⟨d5,d6,D⟩|⟨d5,rfl⟩|⟨d5,d6,rfl⟩
      ·simp only[cs d5,cs d6,cond_true,ai N.symm,ai L.symm,D,at0]
      ·simp only[cn d5,cond_false]
      ·simp only[cs d5,cond_true,cn d6,cond_false]
    ·obtain⟨F,M,a3,a4,L,N,hf⟩:=rest _ U;refine⟨M,?_,hf⟩;simp only[cs d1,cond_true,cn d2,cond_false];rcases a3 with⟨d3,d4,r3⟩|⟨d3,rfl⟩|⟨d3,d4,rfl⟩
     ·simp only[cs d3,cs d4,cond_true,ai L.symm,r3,at0];rcases a4 with⟨d5,d6,D⟩|⟨d5,rfl⟩|⟨d5,d6,rfl⟩
      ·simp only[cs d5,cs d6,cond_true,ai N.symm,ai L.symm,D,at0]
      ·simp only[cn d5,cond_false]
      ·simp only[cs d5,cond_true,cn d6,cond_false]
     ·simp only[cn d3,cond_false];rcases a4 with⟨d5,d6,D⟩|⟨d5,rfl⟩|⟨d5,d6,rfl⟩
      ·simp only[cs d5,cs d6,cond_true,ai N.symm,D,at0]
      ·simp only[cn d5,cond_false]
      ·simp only[cs d5,cond_true,cn d6,cond_false]
     ·simp only[cs d3,cond_true,cn d4,cond_false];rcases a4 with⟨d5,d6,D⟩|⟨d5,rfl⟩|⟨d5,d6,rfl⟩
      ·simp only[cs d5,cs d6,cond_true,D,at0]
      ·simp only[cn d5,cond_false]
      ·simp only[cs d5,cond_true,cn d6,cond_false]
theorem anm(f g:Int×Int×Int×γ×List α×Unit->Option (List α))(h:∀x,dy (f x) (g x))(x:Int×Int×Int×γ×List α×Unit):dy ((tu call) f x) ((tu call) g x):=by
 repeat (first
  |with_reducible exact dy.refl _
  |refine dy.J ?_
  |refine dy.cond ?_ ?_
  |refine dy.bind (dy.loop rfl _) (λx=>?_)
  |refine dy.bind (h _) (λx=>?_)
  |refine dy.bind (dy.refl _) (λx=>?_))
theorem Yt(cmp:γ){P:α->Prop}{c:α->α->Int}(hc:iz P (λx y=>call x y cmp) c)(a m b:Nat)(o:List α)(h:OA P c a m b o):∃o',(Jr call) (a:Int) (m:Int) (b:Int) cmp o=some o'/\kL c o o' a b:=by
 have main:∀n a m b o,b-a<=n->OA P c a m b o->∃o',gR (tu call) n (a,m,b,cmp,o,())=some o'/\kL c o o' a b:=by
  intro n
  induction n with
  |zero=>intro a m b o D h;have:=h.am;have:=h.mb;omega
  |succ n L=>intro a m b o D h;exact anl cmp (λa0 F a2 a3 a4=>gR (tu call) n (a0,F,a2,a3,a4,())) hc n L a m b o D h
 obtain⟨o',M,N⟩:=main _ a m b o (at9 _) h;exact⟨o',abU (λf g J x r=>anm f g (λx r=>J x r) x r) M,N⟩
variable {α γ:Type} {call:α->α->γ->Option Int}
theorem anu(cmp:γ){P:α->Prop}{c:α->α->Int}(hc:iz P (λx y=>call x y cmp) c)(o:List α)(M:∀x∈o,P x)(Z:o.length<=100000000):
  ∃(k:Nat) (D:List α),ae (vK call) ((o.length:Int),cmp,20,0,20,o,())=some ((o.length:Int),cmp,20,((20*k:Nat):Int),D,())/\20*k<=o.length/\o.length<20*k+20/\D.Perm o/\∀j,j<k->cy c D (20*j) (20*j+20):=by
 have main:=mT (f:=(vK call))
  (λv=>∃k D,v=((o.length:Int),cmp,20,((20*k:Nat):Int),((20*k+20:Nat):Int),D,())/\20*k<=o.length/\D.Perm o/\∀j,j<k->cy c D (20*j) (20*j+20))
  (fun v=>(o.length+20-v.2.2.2.2.1).toNat) (λr=>∃k D,r=((o.length:Int),cmp,20,((20*k:Nat):Int),D,())/\20*k<=o.length/\o.length<20*k+20/\D.Perm o/\∀j,j<k->cy c D (20*j) (20*j+20)) (λv O=>by
   obtain⟨k,D,rfl,hk,hp,hs⟩:=O;have hlen:=hp.length_eq;by_cases d:20*k+20<=o.length
   ·obtain⟨J,Y,F⟩:=Yb cmp hc (20*k) (20*k+20) D (λx U=>M x (hp.subset U)) (by simp) (by omega) (by omega)
    have L:((20*k+20:Nat):Int)+20=((20*(k+1)+20:Nat):Int):=by omega
    refine .inl ⟨(o.length,cmp,20,((20*k+20:Nat):Int),((20*(k+1)+20:Nat):Int),J,()),?_,⟨k+1,J,rfl,by omega,F.1.1.trans hp,λj N=>?_⟩,?_⟩
    ·simp only[vK,dY (show((20*k+20:Nat):Int)<=o.length by omega),cond_true,Y,at0,L,aC (show 20*(k+1)+20<=4611686018427387904 by omega),ai F.len.symm]
    ·by_cases d2:j<k
     ·exact(hs j d2).same λt k1 k2=>F.1.out (.inl (by omega))
     ·have:j=k:=by omega
      subst this;exact F.2
    ·show(o.length+20-((20*(k+1)+20):Int)).toNat<(o.length+20-((20*k+20):Int)).toNat;omega
   ·refine .inr ⟨_,?_,k,D,rfl,hk,by omega,hp,hs⟩
    simp (disch:=omega) only[K0,vK])
 obtain⟨r,e,k,D,rfl,g⟩:=main (o.length,cmp,20,(20*0),(20*0+20),o,()) ⟨0,o,rfl,au2 _,.refl _,λj N=>by omega⟩
 exact⟨k,D,e,g⟩
theorem ant(cmp:γ){P:α->Prop}{c:α->α->Int}(hc:iz P (λx y=>call x y cmp) c)(n bs:Nat)(o:List α)(Z:∀x∈o,P x)(hn:n=o.length)(hl:o.length<=100000000)(h1:1<=bs)(h2:bs<=400000000)(Y:∀j,cy c o (bs*j) (min (bs*j+bs) n)):
  ∃(k:Nat) (D:List α),ae (vJ call) ((n:Int),cmp,(bs:Int),0,((2*bs:Nat):Int),o,())=some ((n:Int),cmp,(bs:Int),((bs*(2*k):Nat):Int),D,())/\bs*(2*k)<=n/\n<bs*(2*k)+2*bs/\D.Perm o/\(∀j,j<k->cy c D (bs*(2*j)) (bs*(2*j)+2*bs))/\∀j,2*k<=j->cy c D (bs*j) (min (bs*j+bs) n):=by
 have main:=mT (f:=(vJ call))
  (λv=>∃k D,v=((n:Int),cmp,(bs:Int),((bs*(2*k):Nat):Int),((bs*(2*k)+2*bs:Nat):Int),D,())/\bs*(2*k)<=n/\D.Perm o/\(∀j,j<k->cy c D (bs*(2*j)) (bs*(2*j)+2*bs))/\∀j,2*k<=j->cy c D (bs*j) (min (bs*j+bs) n))
  (fun v=>(n+2*bs-v.2.2.2.2.1).toNat) (λr=>∃(k:Nat) (D:List α),r=((n:Int),cmp,(bs:Int),((bs*(2*k):Nat):Int),D,())/\bs*(2*k)<=n/\n<bs*(2*k)+2*bs/\D.Perm o/\(∀j,j<k->cy c D (bs*(2*j)) (bs*(2*j)+2*bs))/\∀j,2*k<=j->cy c D (bs*j) (min (bs*j+bs) n)) (λv hv=>by
   obtain⟨k,D,rfl,hk,hp,hs,L⟩:=hv;have hlen:=hp.length_eq;have m1:bs*(2*k+1)=bs*(2*k)+bs:=by rw[aA4,aD8]
   have m2:bs*(2*(k+1))=bs*(2*k)+2*bs:=by rw[aA4,aA4,aD8,aB5 bs 2]
   have m3:∀j,j<k->bs*(2*j)+2*bs<=bs*(2*k):=λj F=>by
    have:bs*(2*(j+1))<=bs*(2*k):=aE2 _ (by omega)
    rw[aA4 2,aA4 bs,aD8,aB5 bs 2]at this;exact this
   have m4:∀j,2*(k+1)<=j->bs*(2*k)+2*bs<=bs*j:=λj F=>by rw[<-m2];exact aE2 _ F
   generalize hA:bs*(2*k)=A at*;by_cases d:A+2*bs<=n
   ·have s1:=L (2*k) (at9 _);have s2:=L (2*k+1) (by simp)
    rw[hA]at s1;rw[m1]at s2;obtain⟨M,q1,J⟩:=Yt cmp hc A (A+bs) (A+2*bs) D ⟨by omega,by omega,by omega,by omega,λx hx=>Z x (hp.subset hx),s1.mono (at9 _) (by omega),s2.mono (at9 _) (by omega)⟩
    have N:A+bs=((A+bs:Nat):Int):=rfl;have O:2*bs=((2*bs:Nat):Int):=rfl;have U:((A+2*bs:Nat):Int)+((2*bs:Nat):Int)=((A+2*bs+2*bs:Nat):Int):=rfl;refine .inl ⟨(n,cmp,bs,((A+2*bs:Nat):Int),((A+2*bs+2*bs:Nat):Int),M,()),?_,⟨k+1,M,by rw[m2],by omega,J.1.1.trans hp,λj F=>?_,λj F=>?_⟩,?_⟩
    ·simp only[vJ,dY (show((A+2*bs:Nat):Int)<=n by omega),cond_true,N,aC (show A+bs<=4611686018427387904 by omega),q1,at0,O,aC (show 2*bs<=4611686018427387904 by omega),U,aC (show A+2*bs+2*bs<=4611686018427387904 by omega),ai J.len.symm]
    ·by_cases d2:j<k
     ·have:=m3 j d2;exact(hs j d2).same λt k1 k2=>J.1.out (.inl (by omega))
     ·have:j=k:=by omega
      subst this;rw[hA];exact J.2
    ·have:=m4 j F;exact(L j (by omega)).same λt k1 k2=>J.1.out (.inr (by omega))
    ·show(n+2*bs-((A+2*bs+2*bs):Int)).toNat<(n+2*bs-((A+2*bs):Int)).toNat;omega
   ·refine .inr ⟨_,?_,k,D,by rw[hA],by omega,by omega,hp,hs,L⟩
    simp (disch:=omega) only[K0,vJ])
 have z0:bs*(2*0)=0:=rfl;obtain⟨r,e,k,D,rfl,g⟩:=main (n,cmp,bs,(bs*(2*0)),((bs*(2*0)+2*bs:Nat):Int),o,()) ⟨0,o,rfl,au2 _,.refl _,(λj F=>by omega),λj F=>Y j⟩
 rw[z0,ax2]at e;exact⟨k,D,e,g⟩
theorem ans(cmp:γ){P:α->Prop}{c:α->α->Int}(hc:iz P (λx y=>call x y cmp) c)(n:Nat)(o:List α)(Z:∀x∈o,P x)(hn:n=o.length)(hl:o.length<=100000000)(hB:∀j,cy c o (20*j) (min (20*j+20) n)):
  ∃D,ae (tz call) ((n:Int),cmp,20,o,())=some (D,())/\D.Perm o/\cy c D 0 n:=by
 have main:=mT (f:=(tz call))
  (λv=>∃(bs:Nat) (D:List α),v=((n:Int),cmp,(bs:Int),D,())/\20<=bs/\bs<=400000000/\D.Perm o/\∀j,cy c D (bs*j) (min (bs*j+bs) n))
  (fun v=>(n-v.2.2.1).toNat) (λr=>r.1.Perm o/\cy c r.1 0 n) (λv hv=>by
   obtain⟨bs,D,rfl,h1,h2,hp,hs⟩:=hv;have hlen:=hp.length_eq;by_cases d:bs<n
   ·obtain⟨k,J,q1,q2,q3,L,q5,q6⟩:=ant cmp hc n bs D (λx N=>Z x (hp.subset N)) (by omega) (by omega) (by omega) h2 hs
    have ah:=L.length_eq;have m1:bs*(2*k+1)=bs*(2*k)+bs:=by rw[aA4,aD8]
    have m3:∀j,j<k->bs*(2*j)+2*bs<=bs*(2*k):=λj hj=>by
     have:bs*(2*(j+1))<=bs*(2*k):=aE2 _ (by omega)
     rw[aA4 2,aA4 bs,aD8,aB5 bs 2]at this;exact this
    have m4:∀j,k<j->bs*(2*k)+2*bs<=bs*(2*j):=λj hj=>by
     have:bs*(2*(k+1))<=bs*(2*j):=aE2 _ (by omega)
     rw[aA4 2,aA4 bs,aD8,aB5 bs 2]at this;exact this
    have s1:=q6 (2*k) (at9 _);have s2:=q6 (2*k+1) (by simp)
    rw[m1]at s2
    have fin:∀F:List α,(∀t,t<bs*(2*k)->F[t]? =J[t]?)->cy c F (bs*(2*k)) n->∀j,cy c F (bs*2*j) (min (bs*2*j+bs*2) n):=by
     intro F ho hk j;rw[Nat.mul_assoc bs 2 j];rcases aG2 j k with d2|d2|d2
     ·have:=m3 j d2;exact((q5 j d2).same λt k1 k2=>ho t (by omega)).mono (at9 _) (by omega)
     ·subst d2;exact hk.mono (at9 _) (by omega)
     ·have:=m4 j d2;exact cy.none (by omega)
    have O:2*bs=((2*bs:Nat):Int):=rfl;have Y:bs*2=((bs*2:Nat):Int):=rfl;generalize hA:bs*(2*k)=A at*;have U:A+bs=((A+bs:Nat):Int):=rfl;by_cases d3:A+bs<n
    ·obtain⟨F,r1,M⟩:=Yt cmp hc A (A+bs) n J ⟨by omega,d3,by omega,by omega,λx N=>Z x (hp.subset (L.subset N)),s1.mono (at9 _) (by omega),s2.mono (at9 _) (by omega)⟩
     refine .inl ⟨(n,cmp,(bs*2),F,()),?_,⟨bs*2,F,rfl,by omega,by omega,M.1.1.trans (L.trans hp),fin F (λt ht=>M.1.out (.inl ht)) M.2⟩,?_⟩
     ·simp only[tz,dY (show(bs:Int)<n by omega),cond_true,O,aC (show 2*bs<=4611686018427387904 by omega),q1,at0,U,aC (show A+bs<=4611686018427387904 by omega),dY (show((A+bs:Nat):Int)<n by omega),r1,Y,aC (show bs*2<=4611686018427387904 by omega),ai M.len.symm]
     ·show(n-((bs*2):Int)).toNat<(n-(bs:Int)).toNat;omega
    ·refine .inl ⟨(n,cmp,(bs*2),J,()),?_,⟨bs*2,J,rfl,by omega,by omega,L.trans hp,fin J (λt ht=>rfl) (s1.mono (at9 _) (by omega))⟩,?_⟩
     ·simp (disch:=omega) only[K0,tz,O,q1,U,Y]
     ·show(n-((bs*2):Int)).toNat<(n-(bs:Int)).toNat;omega
   ·refine .inr ⟨(D,()),?_,hp,?_⟩
    ·simp (disch:=omega) only[K0,tz]
    ·have:=hs 0;rw[Nat.mul_zero]at this;exact this.mono (at9 _) (by omega))
 obtain⟨r,e,g⟩:=main (n,cmp,20,o,()) ⟨20,o,rfl,at9 _,by decide,.refl _,hB⟩
 exact⟨r.1,e,g⟩
theorem XB(cmp:γ){P:α->Prop}{c:α->α->Int}(hc:iz P (λx y=>call x y cmp) c)(o:List α)(J:∀x∈o,P x)(M:o.length<=100000000):
  ∃o',(yM call) cmp o=some o'/\o'.Perm o/\o'.Pairwise (λx y=>¬c y x<0):=by
 obtain⟨k,N,Y,Z,q3,F,q5⟩:=anu cmp hc o J M;have hlen:=F.length_eq;obtain⟨O,r1,D⟩:=Yb cmp hc (20*k) o.length N (λx L=>J x (F.subset L)) Z (by omega) (by omega)
 have ah:=D.len
 obtain⟨U,t1,t2,t3⟩:=ans cmp hc o.length O (λx L=>J x (F.subset (D.1.1.subset L))) (by omega) (by omega) (λj=>by
  rcases aG2 j k with d|d|d
  ·exact((q5 j d).same λt k1 k2=>D.1.out (.inl (by omega))).mono (at9 _) (by omega)
  ·subst d;exact D.2.mono (at9 _) (by omega)
  ·exact cy.none (by omega))
 refine⟨U,?_,t2.trans (D.1.1.trans F),aiy ((t2.trans (D.1.1.trans F)).length_eq▸t3)⟩;unfold yM Dm;simp (disch:=omega) only[K0,Y,r1,t1]
abbrev dB:=Int×Int×Int×Int×Int
abbrev ov:=(nH×aa)×Int
theorem ar1:CE=yM qi:=rfl
theorem aiz(cmp:afr){P:ov->Prop}{c:ov->ov->Int}(hc:iz P (λx y=>qi x y cmp) c)(o:List ov)(D:∀x∈o,P x)(F:o.length<=100000000):
  ∃o',CE cmp o=some o'/\o'.Perm o/\o'.Pairwise (λx y=>¬c y x<0):=by
 rw[ar1];exact XB cmp hc o D F
theorem Sv{V D R R':Type}{f:V->Option (V⊕R)}{J:D->Option (D⊕R')}{F:V->D}{L:R->R'}(h:∀v,J (F v)=(f v).map (Sum.map F L)):∀n v,jD n J (F v)=(jD n f v).map L
 |0,_=>rfl
 |n+1,v=>by
  unfold jD;rw[h];cases f v with
  |none=>rfl
  |some x=>cases x with
   |inl v'=>exact Sv h n v'
   |inr r=>rfl
theorem rX{V F R R':Type}{f:V->Option (V⊕R)}{J:F->Option (F⊕R')}{φ:V->F}{ψ:R->R'}(h:∀v,J (φ v)=(f v).map (Sum.map φ ψ))(v:V):ae J (φ v)=(ae f v).map ψ:=by
 cases e:ae f v with
 |some r=>obtain⟨n,D⟩:=o5.1 e;exact o5.2 ⟨n,by rw[Sv h,D];rfl⟩
 |none=>
  cases L:ae J (φ v)with
  |none=>rfl
  |some r=>obtain⟨n,D⟩:=o5.1 L;rw[Sv h]at D;obtain⟨q,M,_⟩:=Option.map_eq_some_iff.1 D;rw[o5.2 ⟨n,M⟩]at e;grind
open Classical in
theorem arx {A D B:Type} {b:(A->Option B)->A->Option B} {F:(D->Option B)->D->Option B} {x:A} {y:D} (h:∀n,gR F n y=gR b n x):pG F y=pG b x:=by simp_all[pG]
theorem r9{c:Prop}{_:Decidable c}{R S:Type}(k:Option R)(f:R->S):(J c k).map f=J c (k.map f):=by grind[J]
theorem rW{R S:Type}(b:Bool)(x y:Option R)(f:R->S):(bif b then x else y).map f=bif b then x.map f else y.map f:=by grind
theorem sc{A B C:Type}(x:Option A)(f:A->Option B)(g:B->C):(x.bind f).map g=x.bind λa=>(f a).map g:=by cases x<;>rfl
theorem FJ{A B C:Type}(x:Option A)(f:A->B)(g:B->Option C):(x.map f).bind g=x.bind λa=>g (f a):=by cases x<;>rfl
abbrev cq(x y:dB)(_:Unit):Option Int:=qh x y
theorem agL(a0 D a3 a4 a5):ae (tn cq) (a0,D,(),a3,a4,a5,())=(ae Ph (a0,D,a3,a4,a5,())).map (λr:Int×Int×Int×(List dB)×Unit=>(r.1,r.2.1,(),r.2.2.1,r.2.2.2.1,())):=
 rX (φ:=λv:Int×Int×Int×Int×(List dB)×Unit=>(v.1,v.2.1,(),v.2.2.1,v.2.2.2.1,v.2.2.2.2.1,())) (ψ:=λr:Int×Int×Int×(List dB)×Unit=>(r.1,r.2.1,(),r.2.2.1,r.2.2.2.1,())) (λv=>by simp only[tn,Ph,rW,r9,sc,az7,Sum.map_inl,Sum.map_inr]) (a0,D,a3,a4,a5,())
theorem agK(a0 D a3 a4):ae (yx cq) (a0,D,(),a3,a4,())=(ae Pg (a0,D,a3,a4,())).map (λr:(List dB)×Unit=>(r.1,())):=
 rX (φ:=λv:Int×Int×Int×(List dB)×Unit=>(v.1,v.2.1,(),v.2.2.1,v.2.2.2.1,())) (ψ:=λr:(List dB)×Unit=>(r.1,())) (λv=>by simp only[yx,Pg,rW,r9,sc,az7,Sum.map_inl,Sum.map_inr,FJ,agL]) (a0,D,a3,a4,())
theorem WC(a b l):vF cq a b () l=Cy a b l:=by simp[vF,Cy,agK]
theorem WL(a b n l): @vI dB Unit a b n () l=CB a b n l:=rfl
theorem ahD(a0 a2 a3 a4):ae (@vL dB Unit) (a0,(),a2,a3,a4,())=(ae Py (a0,a2,a3,a4,())).map (λr:Int×Int×(List dB)×Unit=>(r.1,(),r.2.1,r.2.2.1,())):=
 rX (φ:=λv:Int×Int×Int×(List dB)×Unit=>(v.1,(),v.2.1,v.2.2.1,v.2.2.2.1,())) (ψ:=λr:Int×Int×(List dB)×Unit=>(r.1,(),r.2.1,r.2.2.1,())) (λv=>by simp only[vL,Py,rW,r9,sc,az7,Sum.map_inl,Sum.map_inr,WL]) (a0,a2,a3,a4,())
theorem aie(a m b l): @vQ dB Unit a m b () l=Is a m b l:=by simp[vQ,Is,FJ,WL,ahD]
theorem ahb{rc rc2}(a0 a2 a3 a4):ae (tw cq rc) (a0,(),a2,a3,a4,())=(ae (Pq rc2) (a0,a2,a3,a4,())).map (λr:Int×Int×(List dB)×Unit=>(r.1,r.2.1,r.2.2.1,())):=
 rX (φ:=λv:Int×Int×Int×(List dB)×Unit=>(v.1,(),v.2.1,v.2.2.1,v.2.2.2.1,())) (ψ:=λr:Int×Int×(List dB)×Unit=>(r.1,r.2.1,r.2.2.1,())) (λv=>by simp only[tw,Pq,rW,r9,sc,az7,Sum.map_inl,Sum.map_inr]) (a0,a2,a3,a4,())
theorem at4{rc rc2}: @yD dB Unit rc=Wp rc2:=rfl
theorem aha{rc rc2}(a0 a2 a3 a4):ae (tv cq rc) (a0,(),a2,a3,a4,())=(ae (Pp rc2) (a0,a2,a3,a4,())).map (λr:Int×Int×(List dB)×Unit=>(r.1,r.2.1,r.2.2.1,())):=
 rX (φ:=λv:Int×Int×Int×(List dB)×Unit=>(v.1,(),v.2.1,v.2.2.1,v.2.2.2.1,())) (ψ:=λr:Int×Int×(List dB)×Unit=>(r.1,r.2.1,r.2.2.1,())) (λv=>by simp only[tv,Pp,rW,r9,sc,az7,Sum.map_inl,Sum.map_inr]) (a0,a2,a3,a4,())
theorem at3{rc rc2}: @yC dB Unit rc=Wo rc2:=rfl
theorem ag9{rc rc2}(a0 D a2 a4 a5 F J L a9):ae (oT cq rc) (a0,D,a2,(),a4,a5,F,J,L,a9,())=(ae (Ip rc2) (a0,D,a2,a4,a5,F,J,L,a9,())).map (λr:Int×Int×Int×Int×Int×Int×(List dB)×Unit=>(r.1,r.2.1,r.2.2.1,(),r.2.2.2.1,r.2.2.2.2.1,r.2.2.2.2.2.1,r.2.2.2.2.2.2.1,())):=
 rX (φ:=λv:Int×Int×Int×Int×Int×Int×Int×Int×(List dB)×Unit=>(v.1,v.2.1,v.2.2.1,(),v.2.2.2.1,v.2.2.2.2.1,v.2.2.2.2.2.1,v.2.2.2.2.2.2.1,v.2.2.2.2.2.2.2.1,v.2.2.2.2.2.2.2.2.1,())) (ψ:=λr:Int×Int×Int×Int×Int×Int×(List dB)×Unit=>(r.1,r.2.1,r.2.2.1,(),r.2.2.2.1,r.2.2.2.2.1,r.2.2.2.2.2.1,r.2.2.2.2.2.2.1,())) (λv=>by simp only[oT,Ip,rW,r9,sc,az7,Sum.map_inl,Sum.map_inr]) (a0,D,a2,a4,a5,F,J,L,a9,())
theorem ag7{f F}(h:∀a0 D a2 o,f a0 D a2 () o=F a0 D a2 o)(a0 D a2 o):CY cq f a0 D a2 () o=Po F a0 D a2 o:=by simp[CY,Po,h,FJ,aie,ahb (rc2:=F),aha (rc2:=F),ag9 (rc2:=F)]<;>rfl
theorem ag8(f F)(h:∀a0 D a2 o,f (a0,D,a2,(),o,())=F (a0,D,a2,o,()))(a0 D a2 o):tu cq f (a0,D,a2,(),o,())=Io F (a0,D,a2,o,()):=ag7 (λa0 D a2 o=>h a0 D a2 o) a0 D a2 o
theorem WR(a0 D a2 o):Jr cq a0 D a2 () o=Pu a0 D a2 o:=by
 have:∀n a0 D a2 o,gR (tu cq) n (a0,D,a2,(),o,())=gR Io n (a0,D,a2,o,()):=by
  intro n
  induction n with
  |zero=>intros;rfl
  |succ n F=>exact ag8 _ _ F
 exact arx λn=>this n a0 D a2 o
theorem ahC(a0 a2 a3 a4 a5):ae (vK cq) (a0,(),a2,a3,a4,a5,())=(ae Px (a0,a2,a3,a4,a5,())).map (λr:Int×Int×Int×(List dB)×Unit=>(r.1,(),r.2.1,r.2.2.1,r.2.2.2.1,())):=
 rX (φ:=λv:Int×Int×Int×Int×(List dB)×Unit=>(v.1,(),v.2.1,v.2.2.1,v.2.2.2.1,v.2.2.2.2.1,())) (ψ:=λr:Int×Int×Int×(List dB)×Unit=>(r.1,(),r.2.1,r.2.2.1,r.2.2.2.1,())) (λv=>by simp only[vK,Px,rW,r9,sc,az7,Sum.map_inl,Sum.map_inr,WC]) (a0,a2,a3,a4,a5,())
theorem ahB(a0 a2 a3 a4 a5):ae (vJ cq) (a0,(),a2,a3,a4,a5,())=(ae Pw (a0,a2,a3,a4,a5,())).map (λr:Int×Int×Int×(List dB)×Unit=>(r.1,(),r.2.1,r.2.2.1,r.2.2.2.1,())):=
 rX (φ:=λv:Int×Int×Int×Int×(List dB)×Unit=>(v.1,(),v.2.1,v.2.2.1,v.2.2.2.1,v.2.2.2.2.1,())) (ψ:=λr:Int×Int×Int×(List dB)×Unit=>(r.1,(),r.2.1,r.2.2.1,r.2.2.2.1,())) (λv=>by simp only[vJ,Pw,rW,r9,sc,az7,Sum.map_inl,Sum.map_inr,WR]) (a0,a2,a3,a4,a5,())
theorem ahA(a0 a2 a3):ae (tz cq) (a0,(),a2,a3,())=(ae Pv (a0,a2,a3,())).map (λr:(List dB)×Unit=>(r.1,())):=
 rX (φ:=λv:Int×Int×(List dB)×Unit=>(v.1,(),v.2.1,v.2.2.1,())) (ψ:=λr:(List dB)×Unit=>(r.1,())) (λv=>by simp only[tz,Pv,rW,r9,sc,az7,Sum.map_inl,Sum.map_inr,FJ,WR,ahB]) (a0,a2,a3,())
theorem aid(n l):Dm cq n () l=Ir n l:=by simp[Dm,Ir,FJ,WC,ahC,ahA]
theorem ahU(l):yM cq () l=yk l:=by simp[yM,yk,aid]
theorem aiA{P:dB->Prop}{c:dB->dB->Int}(hc:iz P (λx y=>qh x y) c)(o:List dB)(D:∀x∈o,P x)(F:o.length<=100000000):
  ∃o',yk o=some o'/\o'.Perm o/\o'.Pairwise (λx y=>¬c y x<0):=by
 rw[<-ahU];exact XB (call:=cq) () hc o D F
theorem SA{α:Type}(p:α->Bool):∀(l:List α),l.find? p=(l.findIdx? p).bind λk=>l[k]?
 |[]=>rfl
 |x::t=>by
  rw[List.find?_cons,List.findIdx?_cons];cases h:p x with
  |true=>simp
  |false=>
   rw[SA p t];cases t.findIdx? p with
   |none=>rfl
   |some k=>simp
def gm{α:Type}(l:List (aa×α))(s:aa):Option α:=(l.find? λx=>decide (x.1=s)).map (·.2)
theorem am3{α:Type}{l:List (aa×α)}{s:aa}{a:α}(h:gm l s=some a):(s,a)∈l:=by
 unfold gm at h;cases e:l.find? λx=>decide (x.1=s)with
 |none=>grind
 |some x=>grind
theorem ack(l:List (aa×aa))(s:aa)(D:l.length<=1000000):wE l s=some ((gm l s).getD [],(gm l s).isSome):=by
 have h:=wo (f:=Ep) l (λx=>decide (x.1=s)) (λk=>(l,s,k,())) (λx=>au8 (x.2,())) (au6 ())
  (λk h hp=>by have hp:¬(l[k]).1=s:=of_decide_eq_false hp;simp (disch:=omega) only[K0,Ep])
  (λk h hp=>by have hp:(l[k]).1=s:=of_decide_eq_true hp;simp (disch:=omega) only[K0,Ep])
  (by simp only[Ep,av8,decide_false,cond_false])
 simp_all[wE,gm];cases l.find? (λx=>decide (x.1=s))<;>rfl
theorem rV{α β:Type}(l:List (aa×α))(f:aa×α->aa×β)(hf:∀x,(f x).1=x.1)(s:aa):
  (bC (l.map f) (λx=>decide (x.1=s))= -1/\gm l s=none)\/∃k x,∃h:k<(l.map f).length,bC (l.map f) (λx=>decide (x.1=s))=((k:Nat):Int)/\(l.map f)[k]=f x/\gm l s=some x.2/\x∈l/\x.1=s:=by
 have e:(l.map f).findIdx? (λx=>decide (x.1=s))=l.findIdx? (λx=>decide (x.1=s)):=by rw[List.findIdx?_map];congr 1;funext x;show decide ((f x).1=s)=_;rw[hf]
 rcases kD (l.map f) (λx=>decide (x.1=s))with⟨h1,h2⟩|⟨k,hk,h1,h2,F,J⟩
 ·refine .inl ⟨h2,?_⟩;have:(l.map f).findIdx? (λx=>decide (x.1=s))=none:=by grind
  rw[e]at this;unfold gm;rw[SA,this];rfl
 ·have D:k<l.length:=by rw[au1]at hk;exact hk
  rw[e]at h1;refine .inr ⟨k,l[k],hk,h2,by rw[ax8],?_,at2 D,?_⟩
  ·simp_all[gm,SA]
  ·grind
theorem aoS(S:aP)(F:cR S)(s:aa):IY (ay S) s=some (match gm S.ts s with|some t=>(fY t,true)|none=>(0,false)):=by
 have M:=F.xR;unfold IY;rw[show ym (ay S).2.2.2.2 s=_ from XK (S.ts.map et) s (by grind)]
 rcases rV S.ts et (λx=>rfl) s with⟨h1,h2⟩|⟨k,x,hk,h1,h2,D,J,L⟩
 ·grind
 ·simp only[h1,D];show(ag (S.ts.map et) k).bind _=_;rw[aI hk,h2];rfl
structure pA(cat:List kh):Prop where
 many:cat.length<=6
 all:∀x∈cat,Gf x
 once:(cat.map (·.1)).Nodup
theorem apj(S:Ge)(found:Bool)(cl:aa)(D:ak)(hn:D.length<=6):∀(n k:Nat) (cat:List kh),D.length-k=n->k<=D.length->cat.length=k->pA cat->(∀j (h:j<k) (h2:j<D.length) (J:j<cat.length),rJ D[j]=some (gZ cat[j],(0,0,0)))->
  (∃F,F.length=D.length/\pA F/\(∀j (h2:j<D.length) (J:j<F.length),rJ D[j]=some (gZ F[j],(0,0,0)))/\
   ae ql (D,found,(k:Int),[],S.1,S.2.1,S.2.2.1,S.2.2.2.1,S.2.2.2.2,cl,cat.map (·.1),cat,())=some (.inl (found,[],S.1,S.2.1,S.2.2.1,S.2.2.2.1,S.2.2.2.2,cl,F,())))\/
  ae ql (D,found,(k:Int),[],S.1,S.2.1,S.2.2.1,S.2.2.2.1,S.2.2.2.2,cl,cat.map (·.1),cat,())=some (.inr ([],())):=by
 intro n
 induction n with
 |zero=>
  intro k cat hk Y hc hC O;have e:k=D.length:=by omega
  subst e;refine .inl ⟨cat,hc,hC,λj h2 J=>O j h2 h2 J,bf ?_⟩;simp only[ql,av8,decide_false,cond_false]
 |succ n ih=>
  intro k cat hk Y hc hC O;have N:k<D.length:=by omega
  rcases amF D[k]with⟨x,Z,h1,h2⟩|⟨c,l,ah,U,h1,h2⟩
  ·have L:=rQ (cat.map (·.1)) x.1 (by rw[au1];omega)
   cases M:cE (cat.map (·.1)) x.1 with
   |true=>rw[M]at L;refine .inr (bf ?_);simp only[ql,dY (show(k:Int)<(D.length:Int) by omega),cond_true,aI N,h1,at0,decide_true,av2,cond_false,L]
   |false=>
    rw[M]at L
    have e:ql (D,found,(k:Int),[],S.1,S.2.1,S.2.2.1,S.2.2.2.1,S.2.2.2.2,cl,cat.map (·.1),cat,())=some (.inl (D,found,((k+1:Nat):Int),[],S.1,S.2.1,S.2.2.1,S.2.2.2.1,S.2.2.2.2,cl,(cat++[x]).map (·.1),cat++[x],())):=by
     simp only[ql,dY (show(k:Int)<(D.length:Int) by omega),cond_true,aI N,h1,at0,decide_true,av2,cond_false,L]
     rw[ai (by simp only[au1,av1,ay2];omega),ai (by simp only[av1,ay2];omega)]
     simp only[aS,aC (show k+1<=4611686018427387904 by omega),aw1];rfl
    rw[bd e];refine ih (k+1) (cat++[x]) (by omega) (by omega) (by simp;omega) ⟨by simp;omega,lu hC.all Z,?_⟩ ?_
    ·rw[aw1];exact nS hC.once (sk M)
    ·intro j hj an J;by_cases d:j<cat.length
     ·simp_all
     ·have:j=k:=by omega
      subst this;rw[List.getElem_append_right (by omega)]
      simp only[hc,Nat.sub_self,List.getElem_cons_zero];exact h2
  ·refine .inr (bf ?_);simp only[ql,dY (show(k:Int)<(D.length:Int) by omega),cond_true,aI N,h1,at0,dN U,aw3]
theorem ak1(p t:aa)(D:ak):
  (∃S cl cat,cR S/\pA cat/\gm S.ts t=some cl/\vZ p=some (ay S,(0,0,0))/\cat.length=D.length/\(∀j (h2:j<D.length) (L:j<cat.length),rJ D[j]=some (gZ cat[j],(0,0,0)))/\
   Fo p t D=some ((ao S,cl,cat),true))\/sE (Fo p t D) (λr=>r.2=false):=by
 unfold Fo;rcases alg p with⟨S,F,h1,h2⟩|⟨c,l,J,hc,h1,h2⟩
 ·simp only[K0,h1];by_cases M:6<D.length
  ·refine .inr ?_;simp (disch:=omega) only[K0];rfl
  ·have N:=F.xR;simp (disch:=omega) only[K0];rw[show wE (ao S).2.2.2.2 t=_ from ack S.ts t (by omega),at0]
   simp only[];rcases apj (ao S) (gm S.ts t).isSome ((gm S.ts t).getD []) D (by omega) _ 0 [] rfl (au2 _) rfl ⟨au2 _,(by simp),aA3⟩ (by simp)with⟨cat,g1,g2,g3,g4⟩|g4
   ·have g4:ae ql (D,(gm S.ts t).isSome,0,[],(ao S).1,(ao S).2.1,(ao S).2.2.1,(ao S).2.2.2.1,(ao S).2.2.2.2,(gm S.ts t).getD [],[],[],())=_:=g4;rw[g4];cases O:gm S.ts t with
    |none=>exact .inr rfl
    |some cl=>grind
   ·have g4:ae ql (D,(gm S.ts t).isSome,0,[],(ao S).1,(ao S).2.1,(ao S).2.2.1,(ao S).2.2.2.1,(ao S).2.2.2.2,(gm S.ts t).getD [],[],[],())=_:=g4;rw[g4];exact .inr rfl
 ·refine .inr ?_;simp (disch:=omega) only[K0,h1];rfl
theorem alK(p t:aa)(D:ak):
  (∃S cl cat,cR S/\pA cat/\gm S.ts t=some cl/\Df (p,t,D)=some ((ay S,fY cl,cat.map gZ,ao S,cl,cat),true))\/sE (Df (p,t,D)) (λr=>r.2=false):=by
 unfold Df;rcases ak1 p t D with⟨S,cl,cat,J,hC,N,hp,O,M,F⟩|F
 ·refine .inl ⟨S,cl,cat,J,hC,N,?_⟩;have Y:=hC.many;simp only[K0,hp,aoS S J t]
  have h:=tL (f:=Jl) cat gZ (λk acc=>(true,k,p,t,D,0,[],(ay S).1,(ay S).2.1,(ay S).2.2.1,(ay S).2.2.2.1,(ay S).2.2.2.2,fY cl,(ao S).1,(ao S).2.1,(ao S).2.2.1,(ao S).2.2.2.1,(ao S).2.2.2.2,cl,cat,acc,()))
   (λacc=>(true,0,[],(ay S).1,(ay S).2.1,(ay S).2.2.1,(ay S).2.2.2.1,(ay S).2.2.2.2,fY cl,(ao S).1,(ao S).2.1,(ao S).2.2.1,(ao S).2.2.2.1,(ao S).2.2.2.2,cl,cat,acc,()))
   (λk hk acc Z=>by
    have L:k<D.length:=by omega
    simp only[Jl,dY (show(k)<D.length by omega),cond_true,aI L,M k L hk,at0,decide_true,aC6]
    rw[ai (by grind)]
    simp (disch:=omega) only[K0])
   (by simp only[Jl,O,av8,decide_false,cond_false])
  grind
 ·obtain⟨x,F,U⟩:=od F;refine .inr ?_;simp only[K0,F,U];rfl
structure eG{α:Type}(c:α->α->Int):Prop where
 neg:∀x y,c y x= - c x y
 tr:∀x y z,c x y<=0->c y z<=0->c x z<=0
def fF{α:Type}(c d:α->α->Int)(x y:α):Int:=if c x y=0 then d x y else c x y
theorem mc:eG aK:=⟨fun x y=>by unfold aK;repeat' split
                               all_goals omega,λx y z h1 h2=>by
 grind[aK]
 all_goals omega⟩
theorem eG.lex{α:Type}{c d:α->α->Int}(hc:eG c)(D:eG d):eG (fF c d):=by
 refine⟨λx y=>?_,λx y z h1 h2=>?_⟩
 ·unfold fF;have:=hc.neg x y;by_cases h:c x y=0
  ·simp (disch:=omega) only[K0];exact D.neg x y
  ·omega
 ·unfold fF at*;have F:=hc.tr x y z;have a2:=hc.tr y z x;have a3:=hc.tr z x y;have J:=hc.tr z y x;have L:=hc.neg x y;have M:=hc.neg y z;have N:=hc.neg x z;have d1:=D.tr x y z;split at h1<;>split at h2<;>split<;>omega
theorem eG.on{α β:Type}{c:β->β->Int}(hc:eG c)(f:α->β):eG (λx y=>c (f x) (f y)):=⟨λx y=>hc.neg _ _,λx y z=>hc.tr _ _ _⟩
def kU{α:Type}(q:α->α->Int)(l m:List α):Int:=if bY q l m=0 then aK l.length m.length else bY q l m
theorem arc{α:Type}(q:α->α->Int):kU q [] []=0:=rfl
theorem Tj{α:Type}(q:α->α->Int)(y:α)(t:List α):kU q [] (y::t)= -1:=by simp[kU,bY,aK]
theorem Me{α:Type}(q:α->α->Int)(x:α)(s:List α):kU q (x::s) []=1:=by grind[kU,bY,aK]
theorem FF{α:Type}(q:α->α->Int)(x y:α)(s t:List α):kU q (x::s) (y::t)=if q x y=0 then kU q s t else q x y:=by
 unfold kU;show(if(if q x y=0 then bY q s t else q x y)=0 then _ else _)=_
 by_cases h:q x y=0
 ·rw[if_pos h];have:aK ((x::s).length) ((y::t).length)=aK s.length t.length:=Td (by simp) (by simp)
  rw[this];show(if bY q s t=0 then aK s.length t.length else(if q x y=0 then bY q s t else q x y))=_
  omega
 ·simp (disch:=omega) only[K0];show(if q x y=0 then bY q s t else q x y)=_
  omega
theorem Ss{α:Type}{q:α->α->Int}(D:eG q):eG (kU q):=by
 refine⟨λx y=>?_,λx y z=>?_⟩
 ·induction x generalizing y with
  |nil=>cases y with
   |nil=>rfl
   |cons b t=>simp[Tj,Me]
  |cons a s F=>cases y with
   |nil=>rw[Tj,Me]
   |cons b t=>
    rw[FF,FF];have:=D.neg a b;by_cases h:q a b=0
    ·grind
    ·omega
 ·induction x generalizing y z with
  |nil=>intro h1 h2;cases z with
   |nil=>rw[arc];decide
   |cons b t=>simp[Tj]
  |cons a s F=>
   intro h1 h2;cases y with
   |nil=>grind[Me,FF]
   |cons b t=>cases z with
    |nil=>grind[Me,FF]
    |cons d u=>rw[FF]at h1 h2⊢;have J:=D.tr a b d;have a2:=D.tr b d a;have a3:=D.tr d a b;have L:=D.tr d b a;have M:=D.neg a b;have N:=D.neg b d;have O:=D.neg a d;have i1:=F t u;split at h1<;>split at h2<;>split<;>omega
theorem aoO:eG gS:=mc.on (λx:UInt8=>x.toNat)
theorem aqn(a b:aa):cI a b=kU gS a b:=ab8 a b
theorem Fy:eG cI:=by
 have:cI=kU gS:=by funext a b;exact aqn a b
 rw[this];exact Ss aoO
def Bd(a:aa):Int:=if a.all bJ=true then 0 else 1
def Bc(a:aa):Int:=if a.all bJ=true then(a.length:Int)else 0
theorem amv(a b:aa):gl a b=fF (λx y=>aK (Bd x) (Bd y)) (fF (λx y=>aK (Bc x) (Bc y)) cI) a b:=by
 unfold gl fF Bd Bc;dsimp only;rcases az9 (a.all bJ)with D|D<;>rcases az9 (b.all bJ)with F|F
 ·simp only[D,F,av2,aD5,av7,if_false,true_and,if_true,show aK 0 0=0 by decide]
  by_cases h:a.length=b.length
  ·rw[if_neg (by omega),if_pos (ig.2 (by omega))]
  ·rw[if_pos h,if_neg (λg=>h (by have:=ig.1 g;omega))]
 ·simp only[D,F,aw3,aC6,if_true,av7,if_false,show aK 0 1= -1 by decide,show¬(-1)=0 by decide]
 ·simp only[D,F,aA6,av7,if_false,aw3,aC6,if_true,show aK 1 0=1 by decide,show¬(1:Int)=0 by decide]
 ·simp only[D,F,aA6,av7,if_false,false_and,show aK 1 1=0 by decide,show aK 0 0=0 by decide,if_true]
theorem amu:eG gl:=by
 have:gl=fF (λx y=>aK (Bd x) (Bd y)) (fF (λx y=>aK (Bc x) (Bc y)) cI):=by funext a b;exact amv a b
 rw[this];exact(mc.on Bd).lex ((mc.on Bc).lex Fy)
theorem anZ:eG nh:=by
 have:nh=kU gl:=by funext a b;rfl
 rw[this];exact Ss amu
def A1(v:cN):Int:=if v.2=[]then 1 else 0
theorem aoE(a b:cN):eL a b=fF (λx y=>kU aK (jj x) (jj y)) (fF (λx y=>aK (A1 x) (A1 y)) (λx y=>nh (aw 46 x.2) (aw 46 y.2))) a b:=by
 unfold eL fF A1
 have e:kU aK (jj a) (jj b)=bY aK (jj a) (jj b):=by
  unfold kU;split
  ·rename_i h;rw[h];rfl
  ·rfl
 simp only[e];by_cases h:bY aK (jj a) (jj b)=0
 ·rw[if_pos h,if_pos h];by_cases h1:a.2=b.2
  ·rw[if_pos h1,h1,if_pos (ig.2 rfl),Rf]
  ·rw[if_neg h1];by_cases h2:a.2=[]
   ·have D:¬b.2=[]:=λg=>h1 (by grind)
    simp (disch:=omega) only[K0];rfl
   ·by_cases D:b.2=[]
    ·simp (disch:=omega) only[K0];rfl
    ·simp (disch:=omega) only[K0];rfl
 ·omega
theorem aoD:eG eL:=by
 have:eL=fF (λx y=>kU aK (jj x) (jj y)) (fF (λx y=>aK (A1 x) (A1 y)) (λx y=>nh (aw 46 x.2) (aw 46 y.2))):=by funext a b;exact aoE a b
 rw[this];exact((Ss mc).on jj).lex ((mc.on A1).lex (anZ.on (λv:cN=>aw 46 v.2)))
theorem eG.flip{α:Type}{c:α->α->Int}(hc:eG c):eG (λx y=>c y x):=⟨λx y=>hc.neg y x,λx y z h1 h2=>hc.tr z y x h2 h1⟩
theorem eG.ok{α:Type}{c:α->α->Int}(hc:eG c){P:α->Prop}{cf:α->α->Option Int}(h1:∀x y,P x->P y->cf x y=some (c x y))(h2:∀x y,P x->P y->c x y=0->x=y):iz P cf c:=by
 refine⟨h1,λx y z _ _ _ g1 g2=>?_,λx y _ _ g=>?_,λx y D F g1 g2=>h2 x y D F ?_⟩
 ·have J:=hc.neg x y;have L:=hc.neg y z;have M:=hc.neg x z;have:=hc.tr x y z (by omega) (by omega)
  omega
 ·have:=hc.neg x y;omega
 ·have:=hc.neg x y;omega
def ml(g s:aa):Bool:=mr g&&dt s&&(if kM g=true then iU s g.dropLast else decide (g=s))
def gO(g:aa):Int:=if mr g=true then(if kM g=true then 2*(g.dropLast.length:Int)else 2*(g.length:Int)+1)else-1
theorem Rv(g:aa)(D:g.length<=20000):KA g=some (gO g):=by
 unfold KA gO;simp only[QD g D];cases h:mr g with
 |false=>rfl
 |true=>
  simp only[Qm g D,at0,if_true];have F:g.dropLast.length<=20000:=by rw[List.length_dropLast];omega
  cases h2:kM g with
  |true=>simp only[if_true,av2,cond_false];rw[ai (ba (by omega))]
  |false=>simp only[av7,if_false];simp (disch:=omega) only[K0]
theorem KG(g:aa)(D:g.length<=20000):Et g=some (gO g):=by
 unfold Et gO;simp only[QV g D];cases h:mr g with
 |false=>rfl
 |true=>
  simp only[QT g D,if_true];cases h2:kM g with
  |true=>
   have h0:0<g.length:=by rw[KI h2];simp
   simp (disch:=omega) only[K0,List.length_dropLast];grind
  |false=>simp only[av7,if_false];simp (disch:=omega) only[K0]
theorem match_eq(g s:aa)(D:g.length<=20000)(hs:s.length<=20000):KQ g s=some (ml g s):=by
 unfold KQ ml;simp only[QD g D];cases h:mr g with
 |false=>rfl
 |true=>
  simp only[yX s hs];cases F:dt s with
  |false=>rfl
  |true=>
   simp only[K0,Qm g D];cases h2:kM g with
   |true=>simp only[if_true,av2,cond_false,P9,XP s _ hs,at0]
   |false=>rfl
theorem Lh(g s:aa)(D:g.length<=20000)(hs:s.length<=20000):La g s=some (ml g s):=by
 unfold La ml;simp only[QV g D];cases h:mr g with
 |false=>rfl
 |true=>
  simp only[Kc s hs];cases J:dt s with
  |false=>rfl
  |true=>
   simp only[QT g D,at0];cases h2:kM g with
   |false=>rfl
   |true=>
    have L:=KI h2;have h0:0<g.length:=by grind
    simp only[av2,cond_false];rw[ai (ba (by omega))]
    have F:g.take (g.length-1)=g.dropLast:=by grind
    by_cases c:g.length-1<=s.length
    ·rw[dY (by omega)]
     simp only[cond_true];simp (disch:=omega) only[K0];simp[iU,F]
    ·grind[iU]
def om(s:aa):ak->Nat->Int->Int->Int
 |[],_,a,_=>a
 |g::t,k,a,D=>if D<gO g/\ml g s=true then om s t (k+1) (k:Int) (gO g)else om s t (k+1) a D
def MZ(s:aa)(l:ak):Int:=om s l 0 (-1) (-1)
theorem match_glob{g s:aa}(h:ml g s=true):0<=gO g:=by grind[ml,gO]
theorem amB(s:aa)(hs:s.length<=20000)(l:ak)(N:∀g∈l,g.length<=20000)(O:l.length<=1000):DP s l=some (MZ s l):=by
 have main:∀n k at_ D,l.length-k=n->k<=l.length->ae qg (s,at_,D,l,l.length,k,())=some (om s (l.drop k) k at_ D,()):=by
  intro n
  induction n with
  |zero=>
   intro k at_ D hk M;have e:k=l.length:=by omega
   subst e;rw[ay8];refine bf ?_;simp only[K0,qg];rfl
  |succ n J=>
   intro k at_ D hk M;have L:k<l.length:=by omega
   have F:=N _ (at2 L);rw[av6 L];show _=some ((if D<gO l[k]/\ml l[k] s=true then om s (l.drop (k+1)) (k+1) k (gO l[k])else om s (l.drop (k+1)) (k+1) at_ D),())
   by_cases c:D<gO l[k]
   ·cases c2:ml l[k] s with
    |true=>
     have e:qg (s,at_,D,l,l.length,k,())=some (.inl (s,k,gO l[k],l,l.length,(k+1:Nat),())):=by simp (disch:=omega) only[K0,qg,Rv _ F,match_eq _ s F hs,c2]
     rw[bd e,J (k+1) _ _ (by omega) (by omega),if_pos ⟨c,rfl⟩]
    |false=>
     have e:qg (s,at_,D,l,l.length,k,())=some (.inl (s,at_,D,l,l.length,(k+1:Nat),())):=by simp (disch:=omega) only[K0,qg,Rv _ F,match_eq _ s F hs,c2]
     rw[bd e,J (k+1) _ _ (by omega) (by omega),if_neg (by simp)]
   ·have e:qg (s,at_,D,l,l.length,k,())=some (.inl (s,at_,D,l,l.length,(k+1:Nat),())):=by
      simp (disch:=omega) only[K0,qg,Rv _ F]
    rw[bd e,J (k+1) _ _ (by omega) (by omega),if_neg (by omega)]
 unfold DP;rw[show ae qg (s,-1,-1,l,l.length,0,())=_ from main _ 0 (-1) (-1) rfl (au2 _)]
 rfl
def WAt(l:ak)(a D:Int):Prop:=(a= -1/\D= -1)\/∃j,∃h:j<l.length,a=((j:Nat):Int)/\D=gO l[j]
def Nf(l:ak)(s:aa)(a:Int):Prop:=a= -1\/∃j,∃h:j<l.length,a=((j:Nat):Int)/\ml l[j] s=true
theorem aln(s:aa)(hs:s.length<=20000)(l:ak)(U:∀g∈l,g.length<=20000)(Z:l.length<=1000):D2 s l=some (MZ s l):=by
 have main:∀n k (at_ F:Int),l.length-k=n->k<=l.length->WAt l at_ F->ae nQ (s,l,at_,(k:Int),())=some (om s (l.drop k) k at_ F,()):=by
  intro n
  induction n with
  |zero=>
   intro k at_ F hk Y _;have e:k=l.length:=by omega
   subst e;rw[ay8];refine bf ?_;simp only[nQ,av8,decide_false,cond_false];rfl
  |succ n N=>
   intro k at_ F hk Y hinv;have D:k<l.length:=by omega
   have J:=U _ (at2 D);have L:k+1<=4611686018427387904:=by omega
   rw[av6 D];show _=some ((if F<gO l[k]/\ml l[k] s=true then om s (l.drop (k+1)) (k+1) (k:Int) (gO l[k])else om s (l.drop (k+1)) (k+1) at_ F),())
   cases c2:ml l[k] s with
   |false=>
    have e:nQ (s,l,at_,(k:Int),())=some (.inl (s,l,at_,((k+1:Nat):Int),())):=by simp only[nQ,dY (show(k:Int)<(l.length:Int) by omega),cond_true,cond_false,aI D,at0,Lh _ s J hs,c2,aS,aC L]
    rw[bd e,N (k+1) _ _ (by omega) (by omega) hinv,if_neg (λg=>by cases g.2)]
   |true=>
    have hw:=match_glob c2;rcases hinv with⟨h1,h2⟩|⟨j,M,h1,h2⟩
    ·have e:nQ (s,l,at_,(k:Int),())=some (.inl (s,l,(k:Int),((k+1:Nat):Int),())):=by
       simp only[nQ,dY (show(k:Int)<(l.length:Int) by omega),cond_true,aI D,at0,Lh _ s J hs,c2,dY (show at_<0 by omega),aS,aC L]
     rw[bd e,N (k+1) _ (gO l[k]) (by omega) (by omega) (.inr ⟨k,D,rfl,rfl⟩),if_pos ⟨by omega,rfl⟩]
    ·subst h1;have O:=U _ (at2 M);by_cases c:gO l[j]<gO l[k]
     ·have e:nQ (s,l,(j:Int),(k:Int),())=some (.inl (s,l,(k:Int),((k+1:Nat):Int),())):=by
        simp only[nQ,dY (show(k:Int)<(l.length:Int) by omega),cond_true,cond_false,aI D,at0,Lh _ s J hs,c2,dN (show¬((j:Nat):Int)<0 by omega),KG _ J,aI M,KG _ O,dY c,aS,aC L]
      rw[bd e,N (k+1) _ (gO l[k]) (by omega) (by omega) (.inr ⟨k,D,rfl,rfl⟩),if_pos ⟨by omega,rfl⟩]
     ·have e:nQ (s,l,(j:Int),(k:Int),())=some (.inl (s,l,(j:Int),((k+1:Nat):Int),())):=by
        simp only[nQ,dY (show(k:Int)<(l.length:Int) by omega),cond_true,cond_false,aI D,at0,Lh _ s J hs,c2,dN (show¬((j:Nat):Int)<0 by omega),KG _ J,aI M,KG _ O,dN c,aS,aC L]
      rw[bd e,N (k+1) _ F (by omega) (by omega) (.inr ⟨j,M,rfl,h2⟩),if_neg (λg=>c (by omega))]
 unfold D2;rw[show ae nQ (s,l,-1,0,())=_ from main _ 0 (-1) (-1) rfl (au2 _) (.inl ⟨rfl,rfl⟩),at0]
 rw[ax7];rfl
theorem KB(s:aa)(l:ak):Nf l s (MZ s l):=by
 have main:∀n k at_ D,l.length-k=n->k<=l.length->Nf l s at_->Nf l s (om s (l.drop k) k at_ D):=by
  intro n
  induction n with
  |zero=>
   intro k at_ D hk J h;have e:k=l.length:=by omega
   subst e;rw[ay8];exact h
  |succ n L=>
   intro k at_ D hk J h;have F:k<l.length:=by omega
   rw[av6 F];show Nf l s (if D<gO l[k]/\ml l[k] s=true then om s (l.drop (k+1)) (k+1) k (gO l[k])else om s (l.drop (k+1)) (k+1) at_ D)
   by_cases c:D<gO l[k]/\ml l[k] s=true
   ·rw[if_pos c];exact L (k+1) _ _ (by omega) (by omega) (.inr ⟨k,F,rfl,c.2⟩)
   ·grind
 have:=main _ 0 (-1) (-1) rfl (au2 _) (.inl rfl);rw[ax7]at this;exact this
def mm(S:aP):ak:=S.cs.map (·.1)
def kK(S:aP)(s:aa):Int:=MZ s (mm S)
theorem Ye{S:aP}(D:cR S):∀g∈mm S,g.length<=20000:=λg F=>by obtain⟨x,J,rfl⟩:=ax1.1 F;have:=(D.cs x J).2.1;omega
theorem YN{S:aP}(D:cR S):(mm S).length<=1000:=by unfold mm;rw[au1];have:=D.vp;omega
theorem abb(S:aP)(D:cR S)(s:aa)(hs:s.length<=20000):DV (ay S) s=some (kK S s):=by
 have h:=tL (f:=Dv) (S.cs.map cv) (λx=>x.1) (λk acc=>(s,S.cs.map cv,((S.cs.map cv).length),k,acc,())) (λacc=>(s,acc,())) (λk hk acc J=>by
  have F:=D.vp;have:k<S.cs.length:=by grind
  simp only[Dv];simp (disch:=omega) only[K0]) (by
  simp only[Dv,av8,decide_false,cond_false])
 unfold DV;rw[show ae Dv (s,(ay S).2.1,((ay S).2.1.length),0,[],())=_ from h]
 simp only[K0,aaw];rw[show DP s (S.cs.map (·.1))=_ from amB s hs (mm S) (Ye D) (YN D)];rfl
theorem ZS(S:aP)(D:cR S)(s:aa)(hs:s.length<=20000):EY (ao S) s=some (kK S s):=by
 have h:=tL (f:=CS) S.cs (λx=>x.1) (λk acc=>(k,S.ss.map bB,S.cs,S.ps,S.hs,S.ts,acc,())) (λacc=>(acc,())) (λk hk acc J=>by
  have F:=D.vp;simp only[CS];simp (disch:=omega) only[K0]) (by
  simp only[CS,av8,decide_false,cond_false])
 unfold EY P6;rw[show ae CS (0,(ao S).1,(ao S).2.1,(ao S).2.2.1,(ao S).2.2.2.1,(ao S).2.2.2.2,[],())=_ from h]
 simp only[at0];rw[show D2 s (S.cs.map (·.1))=_ from aln s hs (mm S) (Ye D) (YN D)];rfl
abbrev um:=aa×aa×ak
def MA(S:aP):ak:=S.ss.map (·.1)
def te(S:aP)(c:um):ak:=if c.2.1=im then c.2.2 else(MA S).filter λn=>cE c.2.2 n==decide (c.2.1=iK)
theorem KD{α:Type}(l:List α)(p:α->Bool):l.filter p=l.flatMap λx=>if p x=true then[x]else[]:=by
 induction l with
 |nil=>rfl
 |cons x t D=>grind
theorem rZ{α β:Type}(l:List α)(e:α->List β)(he:∀x,(e x).length<=1):(l.flatMap e).length<=l.length:=by
 induction l with
 |nil=>grind
 |cons x t D=>grind
theorem Rl{k:aa}(h:k∈uc):(F5 k=2<->k=im)/\(F5 k=0<->k=iK)/\(¬k=im->¬k=iK->k=pj):=by simp only[uc,aw2,az1,or_false]at h;rcases h with h|h|h<;>subst h<;>decide
theorem as8(S:aP)(D:cR S)(c:um)(hc:c∈S.cs):Lv (ay S) (cv c)=some (te S c):=by
 obtain⟨_,_,hk,L,_,_⟩:=D.cs c hc;obtain⟨k1,k2,k3⟩:=Rl hk;have M:=D.mG;unfold Lv te;by_cases h:c.2.1=im
 ·rw[if_pos h,dY (show(cv c).2.1=2 from k1.2 h),cond_true,show Fe (cv c).2.2=some c.2.2 from if_pos (show c.2.2.length<1000000 by omega)];rfl
 ·rw[if_neg h,dN (show¬(cv c).2.1=2 from λg=>h (k1.1 g))]
  simp only[cond_false]
  have F:decide ((cv c).2.1=0)=decide (c.2.1=iK):=by
   by_cases g:c.2.1=iK
   ·rw[dY g];exact dY (show(cv c).2.1=0 from k2.2 g) _
   ·rw[dN g];exact dN (show¬(cv c).2.1=0 from λq=>g (k2.1 q)) _
  have J:=tM (f:=Eg) (S.ss.map ct) (λx=>if(cE c.2.2 x.1==decide (c.2.1=iK))=true then[x.1]else[]) (λk acc=>(S.ss.map ct,((S.ss.map ct).length:Int),(k:Int),(cv c).1,(cv c).2.1,(cv c).2.2,acc,())) (λacc=>(acc,()))
   (fun k hk=>by
    have hlen:=rZ ((S.ss.map ct).take k) (λx=>if(cE c.2.2 x.1==decide (c.2.1=iK))=true then[x.1]else[]) (λx=>by show(if _ then[x.1]else[]).length<=1;split<;>simp)
    rw[aw7]at hlen;have O:k<S.ss.length:=by rw[au1]at hk;exact hk
    simp only[Eg,dY (show(k:Int)<((S.ss.map ct).length:Int) by omega),cond_true,aI hk]
    rw[show rE (cv c).2.2 ((S.ss.map ct)[k]).1=_ from KE c.2.2 _ (by omega),at0,F]
    cases N:(cE c.2.2 ((S.ss.map ct)[k]).1==decide (c.2.1=iK))with
    |true=>
     simp only[cond_true,if_true];rw[ai (by simp only[av1,ay2];omega)]
     simp only[aS,aC (show k+1<=4611686018427387904 by omega)]
    |false=>simp only[cond_false,av7,if_false,aw5,aS,aC (show k+1<=4611686018427387904 by omega)]) (by
    simp only[Eg,av8,decide_false,cond_false])
  rw[show ae Eg ((ay S).1,((ay S).1.length:Int),0,(cv c).1,(cv c).2.1,(cv c).2.2,[],())=_ from J,at0]
  congr 1;rw[KD,MA,aE7,aE7];rfl
theorem asz(S:aP)(F:cR S)(c:um)(hc:c∈S.cs):Mx (ao S) c=some (te S c):=by
 obtain⟨_,_,hk,N,_,_⟩:=F.cs c hc;obtain⟨k1,k2,k3⟩:=Rl hk;have O:=F.mG;unfold Mx te;by_cases h:c.2.1=im
 ·rw[if_pos h,dY h];simp only[cond_true];rw[ai (by omega)]
 ·rw[if_neg h,dN h];simp only[cond_false]
  have M:=tM (f:=Fp) (S.ss.map bB) (λx=>if(cE c.2.2 x.1==decide (c.2.1=iK))=true then[x.1]else[]) (λk acc=>((k:Int),S.ss.map bB,S.cs,S.ps,S.hs,S.ts,c.1,c.2.1,c.2.2,acc,())) (λacc=>(acc,()))
   (fun k hk=>by
    have hlen:=rZ ((S.ss.map bB).take k) (λx=>if(cE c.2.2 x.1==decide (c.2.1=iK))=true then[x.1]else[]) (by grind)
    rw[aw7]at hlen;have U:k<S.ss.length:=by rw[au1]at hk;exact hk
    generalize((S.ss.map bB).take k).flatMap (λx=>if(cE c.2.2 x.1==decide (c.2.1=iK))=true then[x.1]else[])=acc at hlen⊢
    simp only[Fp,dY (show(k:Int)<((S.ss.map bB).length:Int) by omega),aI hk]
    rw[rQ c.2.2 _ (by omega),at0]
    by_cases D:c.2.1=iK
    ·cases L:cE c.2.2 ((S.ss.map bB)[k]).1 with
     |true=>
      simp only[dY D,cond_true,beq_self_eq_true,if_true];rw[ai (by grind)]
      simp (disch:=omega) only[K0]
     |false=>simp only[dY D,cond_true,cond_false,dN (show¬c.2.1=pj by rw[D];decide),show(false==true)=false by rfl,av7,if_false,aw5,aS,aC (show k+1<=4611686018427387904 by omega)]
    ·have J:=k3 h D;cases L:cE c.2.2 ((S.ss.map bB)[k]).1 with
     |true=>simp only[dN D,dY J,cond_true,cond_false,av2,show(true==false)=false by rfl,av7,if_false,aw5,aS,aC (show k+1<=4611686018427387904 by omega)]
     |false=>
      simp only[dN D,dY J,cond_true,cond_false,aw3,beq_self_eq_true,if_true];rw[ai (by simp only[K0];omega)]
      simp (disch:=omega) only[K0]) (by
    simp only[Fp,av8,decide_false,cond_false])
  rw[show ae Fp (0,(ao S).1,(ao S).2.1,(ao S).2.2.1,(ao S).2.2.2.1,(ao S).2.2.2.2,c.1,c.2.1,c.2.2,[],())=_ from M]
  congr 1;rw[KD,MA,aE7,aE7];rfl
def MT(S:aP):ak:=(S.ss.filter λx=>decide (x.2.2=jV)).map (·.1)
def mg(S:aP)(s:aa):ak:=if dt s=true then(if 0<=kK S s then(match S.cs[(kK S s).toNat]? with|some c=>te S c|none=>[])else MT S)else[]
theorem YI(S:aP):MT S=S.ss.flatMap λx=>if decide (x.2.2=jV)=true then[x.1]else[]:=by
 unfold MT
 induction S.ss with
 |nil=>rfl
 |cons x t D=>grind
theorem Yr(S:aP)(D:cR S)(s:aa)(hs:s.length<=20000):yV (ay S) s=some (mg S s):=by
 have M:=D.mG;unfold yV mg;rw[yX s hs];cases hc:dt s with
 |false=>rfl
 |true=>
  simp only[abb S D s hs,at0,if_true];rcases KB s (mm S)with h|⟨j,F,h,_⟩
  ·have h:kK S s= -1:=h;simp (disch:=omega) only[K0]
   have L:=tM (f:=Dg) (S.ss.map ct) (λx=>if x.2.2=true then[x.1]else[]) (λk acc=>(S.ss.map ct,((S.ss.map ct).length),k,acc,())) (λacc=>(acc,()))
    (fun k hk=>by
     have hlen:=rZ ((S.ss.map ct).take k) (λx=>if x.2.2=true then[x.1]else[]) (by simp)
     rw[aw7]at hlen;have U:k<S.ss.length:=by rw[au1]at hk;exact hk
     simp only[Dg,dY (show(k)<((S.ss.map ct).length:Int) by omega),cond_true,aI hk]
     cases N:((S.ss.map ct)[k]).2.2 with
     |true=>
      simp only[cond_true,if_true];rw[ai (by grind)]
      simp (disch:=omega) only[K0]
     |false=>simp only[cond_false,av7,if_false,aw5,aS,aC (show k+1<=4611686018427387904 by omega)]) (by
     simp only[Dg,av8,decide_false,cond_false])
   rw[show ae Dg ((ay S).1,((ay S).1.length),0,[],())=_ from L,YI,aE7];rfl
  ·have h:kK S s=j:=h;have J:j<S.cs.length:=by unfold mm at F;rw[au1]at F;exact F
   have O:j<(S.cs.map cv).length:=by grind
   rw[h,if_pos (by simp),av0,au4 J]
   simp only[cond_true];show(ag (S.cs.map cv) j).bind _=_;simp (disch:=omega) only[K0,ax8,as8 S D _ (at2 J)]
theorem akI(S:aP)(D:cR S)(s:aa)(hs:s.length<=20000):DY (ao S) s=some (mg S s):=by
 have M:=D.mG;unfold DY mg;rw[Kc s hs];cases hc:dt s with
 |false=>rfl
 |true=>
  simp only[ZS S D s hs,at0,if_true];rcases KB s (mm S)with h|⟨j,F,h,_⟩
  ·have h:kK S s= -1:=h;simp (disch:=omega) only[K0]
   have L:=tM (f:=Dz) (S.ss.map bB) (λx=>if decide (x.2.2=jV)=true then[x.1]else[]) (λk acc=>(k,S.ss.map bB,S.cs,S.ps,S.hs,S.ts,acc,())) (λacc=>(acc,()))
    (λk hk=>by
     have hlen:=rZ ((S.ss.map bB).take k) (λx=>if decide (x.2.2=jV)=true then[x.1]else[]) (by grind)
     rw[aw7]at hlen;have O:k<S.ss.length:=by rw[au1]at hk;exact hk
     simp only[Dz,dY (show(k)<((S.ss.map bB).length:Int) by omega),cond_true,aI hk]
     cases N:decide (((S.ss.map bB)[k]).2.2=jV)with
     |true=>simp_all;simp (disch:=omega) only[K0]
     |false=>simp only[cond_false,av7,if_false,aw5,aS,aC (show k+1<=4611686018427387904 by omega)]) (by
     simp only[Dz,av8,decide_false,cond_false])
   rw[show ae Dz (0,(ao S).1,(ao S).2.1,(ao S).2.2.1,(ao S).2.2.2.1,(ao S).2.2.2.2,[],())=_ from L,YI,aE7];rfl
  ·have h:kK S s=j:=h;have J:j<S.cs.length:=by unfold mm at F;rw[au1]at F;exact F
   rw[h,if_pos (by simp),av0,au4 J]
   simp only[cond_true];show(ag S.cs j).bind _=_;simp (disch:=omega) only[K0,asz S D _ (at2 J)]
theorem arM(S:aP)(D:cR S)(c:um)(hc:c∈S.cs):(te S c).length<=100:=by
 have F:=(D.cs c hc).2.2.2.1;have J:=D.mG;unfold te MA;split
 ·omega
 ·grind
theorem Ys(S:aP)(D:cR S)(s:aa):(mg S s).length<=100:=by
 have F:=D.mG;unfold mg;split
 ·split
  ·split
   ·rename_i c hc;exact arM S D c (az6 hc)
   ·grind
  ·grind[MT]
 ·grind
theorem anh(S:aP)(D:cR S)(s src:aa)(hs:s.length<=20000):DF (ay S) s src=some (cE (mg S s) src):=by unfold DF;have:=Ys S D s;rw[Yr S D s hs,at0,KE _ _ (by omega),at0]
def qG(S:aP)(s:aa):Option um:=if 0<=kK S s then(S.cs[(kK S s).toNat]?).filter λc=>decide (c.2.1=im)else none
theorem ap4(S:aP)(F:cR S)(s:aa)(hs:s.length<=20000):DU (ay S) s=some (qG S s).isSome:=by
 unfold DU qG;rw[abb S F s hs,at0];rcases KB s (mm S)with h|⟨j,D,h,_⟩
 ·have h:kK S s= -1:=h;simp (disch:=omega) only[K0];rfl
 ·have h:kK S s=j:=h;have J:j<S.cs.length:=by unfold mm at D;rw[au1]at D;exact D
  have L:j<(S.cs.map cv).length:=by grind
  rw[h,dY (by simp)]
  simp only[cond_true];show(ag (S.cs.map cv) j).bind _=_;rw[aI L,ax8];have k1:=(Rl (F.cs _ (at2 J)).2.2.1).1;by_cases g:(S.cs[j]).2.1=im
  ·rw[dY (show(cv S.cs[j]).2.1=2 from k1.2 g)]
   grind
  ·rw[dN (show¬(cv S.cs[j]).2.1=2 from λq=>g (k1.1 q))]
   grind
theorem Zy{d:Nat}(h:d<16):gV (uJ d).toNat=d/\eM (uJ d)=true:=by
 have:∀d:Fin 16,gV (uJ d.val).toNat=d.val/\eM (uJ d.val)=true:=by decide
 exact this ⟨d,h⟩
theorem aom(b:Nat):∀n,n<=16->b<16^16->((aA2 n).map λi=>uJ (b/16^(15-i)%16)).foldl dn 0=b/16^(16-n):=by
 intro n
 induction n with
 |zero=>grind
 |succ n L=>
  intro M J;rw[List.range_succ,aw1,List.foldl_append,L (by omega) J]
  show dn (b/16^(16-n)) (uJ (b/16^(15-n)%16))=_;unfold dn;rw[(Zy (Nat.mod_lt _ (by simp))).1]
  have D:16-n=(15-n)+1:=by omega
  have F:16-(n+1)=15-n:=by omega
  rw[D,F,aC0,<-Nat.div_div_eq_div_mul];omega
theorem aon{b:Nat}(D:b<18446744073709551616):dz (xp b)=b:=by rw[Tp];have:=aom b 16 (at9 _) D;unfold xp;rw[this];rw[Nat.div_one]
theorem aoo(b:Nat):iC (xp b)=true:=by unfold iC xp;simp[List.all_map];intro i _;exact(Zy (Nat.mod_lt _ (by simp))).2
theorem Yw(b:Nat)(F:b<18446744073709551616):∃D:Nat,D<18446744073709551616/\nT (AZ b)=some ((D:Int),true)/\fc D=fc b:=by
 unfold AZ;cases J:qW b with
 |true=>
  refine⟨9221120237041090561,by decide,?_,?_⟩
  ·simp only[Ku];rfl
  ·unfold fc;rw[J,if_pos rfl,if_pos (by decide)]
 |false=>refine⟨b,F,?_,rfl⟩;obtain⟨h1,h2⟩:=we (aoo b);rw[if_neg (by simp),Ku,if_pos ⟨h1,h2⟩,aon F]
def eK(S:aP)(s:aa):Int:=match gm S.ss s with|some _=>0|none=>1
def gG(S:aP)(s:aa):Int:=match gm S.ss s with|some x=> -((fc (dz x.1):Nat):Int)|none=>0
def xt(S:aP)(a b:aa):Int:=fF (λx y=>aK (eK S x) (eK S y)) (fF (λx y=>aK (gG S x) (gG S y)) cI) a b
theorem aql(S:aP):eG (xt S):=(mc.on (eK S)).lex ((mc.on (gG S)).lex Fy)
theorem o6{α:Type}{c d:α->α->Int}{x y:α}(h:fF c d x y=0):c x y=0/\d x y=0:=by grind[fF]
theorem aoF{S:aP}{a b:aa}(h:xt S a b=0):a=b:=rS (o6 (o6 h).2).2
theorem aa9(a b:Nat):j6 b a=aK (-((fc a:Nat):Int)) (-((fc b:Nat):Int)):=by simp[j6,aK]
theorem aa8(S:aP)(a b:aa):xt S a b=if aK (eK S a) (eK S b)=0 then(if aK (gG S a) (gG S b)=0 then cI a b else aK (gG S a) (gG S b))else aK (eK S a) (eK S b):=rfl
theorem alz(S:aP)(F:cR S)(a b:aa):JX (ay S) a b=some (xt S a b):=by
 have h8:=F.mG;have hp:∀s,tt (ay S) s=some (bC (S.ss.map ct) λx=>decide (x.1=s)):=λs=>by unfold tt;rw[show yn (ay S).1 s=_ from QC (S.ss.map ct) s (by rw[au1];omega),at0]
 unfold JX;rw[hp a,hp b,at0,at0,aa8];rcases rV S.ss ct (λx=>rfl) a with⟨h1,h2⟩|⟨k,x,hk,h1,h2,M,O,Z⟩
 ·have D:eK S a=1:=by unfold eK;rw[h2]
  have J:gG S a=0:=by unfold gG;rw[h2]
  rcases rV S.ss ct (λx=>rfl) b with⟨g1,g2⟩|⟨j,y,N,g1,g2,g3,g4,g5⟩
  ·have mb:eK S b=1:=by unfold eK;rw[g2]
   have L:gG S b=0:=by unfold gG;rw[g2]
   rw[h1,g1,D,mb,J,L];simp only[show decide ((-1:Int)<0)=true by decide,cond_true,DE,at0,show aK 1 1=0 by decide,show aK 0 0=0 by decide,if_true]
  ·have mb:eK S b=0:=by unfold eK;rw[g3]
   rw[h1,g1,D,mb];simp only[show decide ((-1:Int)<0)=true by decide,cond_true,dN (show¬((j:Nat):Int)<0 by omega),cond_false,show aK 1 0=1 by decide,show¬(1:Int)=0 by decide,if_false]
 ·have D:eK S a=0:=by unfold eK;rw[M]
  have J:gG S a= -((fc (dz x.2.1):Nat):Int):=by unfold gG;rw[M]
  rcases rV S.ss ct (λx=>rfl) b with⟨g1,g2⟩|⟨j,y,N,g1,g2,g3,g4,g5⟩
  ·have mb:eK S b=1:=by unfold eK;rw[g2]
   rw[h1,g1,D,mb];simp only[dN (show¬((k:Nat):Int)<0 by omega),cond_false,show decide ((-1:Int)<0)=true by decide,cond_true,show aK 0 1= -1 by decide,show¬(-1:Int)=0 by decide,if_false]
  ·have mb:eK S b=0:=by unfold eK;rw[g3]
   have L:gG S b= -((fc (dz y.2.1):Nat):Int):=by unfold gG;rw[g3]
   rw[h1,g1,D,mb,J,L];simp only[dN (show¬((k:Nat):Int)<0 by omega),dN (show¬((j:Nat):Int)<0 by omega),cond_false,show aK 0 0=0 by decide,if_true]
   show(ag (S.ss.map ct) (j:Int)).bind _=_;rw[aI N];show(ag (S.ss.map ct) (k:Int)).bind _=_;rw[aI hk,h2,g2];have U:=we (F.ss x O).2.1;have Y:=we (F.ss y g4).2.1;have e:Dw (ct y).2.1 (ct x).2.1=some (j6 (dz y.2.1) (dz x.2.1)):=if_pos ⟨FG _ (by omega) Y.2,FG _ (by omega) U.2⟩
   rw[e,at0,aa9];by_cases c:aK (-((fc (dz x.2.1):Nat):Int)) (-((fc (dz y.2.1):Nat):Int))=0
   ·grind[DE]
   ·grind
theorem alC(S:aP)(F:cR S)(a b:aa)(N:a.length<=20000):DZ (ao S) a b=some (xt S a b):=by
 have h8:=F.mG;have hp:∀s,vO (ao S) s=some (bC (S.ss.map bB) λx=>decide (x.1=s)):=λs=>Zg (ao S) s (by show(S.ss.map bB).length<=1000;rw[au1];omega)
 unfold DZ;simp only[hp a,hp b,aa8];rcases rV S.ss bB (λx=>rfl) a with⟨h1,h2⟩|⟨k,x,hk,h1,h2,M,U,h5⟩
 ·have D:eK S a=1:=by unfold eK;rw[h2]
  have J:gG S a=0:=by unfold gG;rw[h2]
  rcases rV S.ss bB (λx=>rfl) b with⟨g1,g2⟩|⟨j,y,O,g1,g2,g3,g4,g5⟩
  ·have mb:eK S b=1:=by unfold eK;rw[g2]
   have L:gG S b=0:=by unfold gG;rw[g2]
   rw[h1,g1,D,mb,J,L];simp[show decide (0<=(-1))=false by decide,y8 a b N,show aK 1 1=0 by decide,show aK 0 0=0 by decide]
  ·have mb:eK S b=0:=by unfold eK;rw[g3]
   rw[h1,g1,D,mb];simp[cond_true,show aK 1 0=1 by decide]
 ·have D:eK S a=0:=by unfold eK;rw[M]
  have J:gG S a= -((fc (dz x.2.1)):Int):=by unfold gG;rw[M]
  rcases rV S.ss bB (λx=>rfl) b with⟨g1,g2⟩|⟨j,y,O,g1,g2,g3,g4,g5⟩
  ·have mb:eK S b=1:=by unfold eK;rw[g2]
   rw[h1,g1,D,mb];simp[cond_false,cond_true,show aK 0 1= -1 by decide]
  ·have mb:eK S b=0:=by unfold eK;rw[g3]
   have L:gG S b= -((fc (dz y.2.1)):Int):=by unfold gG;rw[g3]
   rw[h1,g1,D,mb,J,L];simp[dN (show¬(j:Int)<0 by omega),cond_false,show aK 0 0=0 by decide]
   have Y:=we (F.ss x U).2.1;have Z:=we (F.ss y g4).2.1;obtain⟨bx,x1,x2,x3⟩:=Yw (dz x.2.1) (FG _ (by omega) Y.2)
   obtain⟨ah,y1,y2,y3⟩:=Yw (dz y.2.1) (FG _ (by omega) Z.2)
   show(ag (S.ss.map bB) k).bind _=_;simp (disch:=omega) only[K0,h2,show nT (bB x).2.1=_ from x2]
   show(ag (S.ss.map bB) j).bind _=_;rw[aI O,g2,show nT (bB y).2.1=_ from y2]
   simp[];rw[ai2 _ _ y1 x1,at0,aa9,x3,y3];by_cases c:aK (-((fc (dz x.2.1)):Int)) (-((fc (dz y.2.1)):Int))=0
   ·rw[if_pos c];simp (disch:=omega) only[K0,y8 a b N]
   ·rw[dN c,if_neg c];rfl
def xq(S:aP)(n d:aa):Bool:=match gm S.hs n with|some D=>cE D d|none=>true
def jh(S:aP)(e:bN):Int:=match gm S.ps e.1 with
 |some v=>if v=e.2.1 then(if xq S e.1 e.2.2.1=true then 0 else 2)else 1
 |none=>if xq S e.1 e.2.2.1=true then(if e.2.2.2.2.1=true then 3 else 0)else 2
theorem hash_eq(S:aP)(D:cR S)(n d:aa)(L:iC d=true):yG (ay S) n (gq d)=some (xq S n d):=by
 have N:=D.xY;unfold yG xq;rw[show yr (ay S).2.2.2.1 n=_ from YG (S.hs.map dV) n (by grind)]
 rcases rV S.hs dV (λx=>rfl) n with⟨h1,h2⟩|⟨k,x,hk,h1,h2,F,J,O⟩
 ·grind
 ·simp only[h1,F];show(ag (S.hs.map dV) k).bind _=_;obtain⟨_,U,Y,_,M⟩:=D.hs x J;simp (disch:=omega) only[K0,h2,show yy (dV x).2 (gq d)=_ from XQ (x.2.map gq) (gq d) (by grind),ab0 x.2 d M L]
theorem has_eq(S:aP)(D:cR S)(n d:aa):Aj S.hs n d=some (xq S n d):=by
 have F:=D.xY
 have h:=wo (f:=EZ) S.hs (λx=>decide (x.1=n)) (λk=>(S.hs,n,d,k,())) (λx=>au8 (cE x.2 d,())) (au6 ())
  (λk h hp=>by have hp:¬(S.hs[k]).1=n:=of_decide_eq_false hp;simp (disch:=omega) only[K0,EZ])
  (λk h hp=>by have hp:(S.hs[k]).1=n:=of_decide_eq_true hp;have J:=(D.hs _ (at2 h)).2.2.1;simp (disch:=omega) only[K0,EZ,rQ _ d (show(S.hs[k]).2.length<=1000000 by omega)])
  (by simp only[EZ,av8,decide_false,cond_false])
 simp_all[Aj,xq,gm];cases S.hs.find? (λx=>decide (x.1=n))<;>rfl
theorem arU(S:aP)(F:cR S)(e:bN)(he:dM e):Fg (ay S) (cZ e)=some (jh S e):=by
 have N:=F.xU;have J:=hash_eq S F e.1 e.2.2.1 he.HQ;have J:yG (ay S) (cZ e).1 (cZ e).2.2.1=_:=J;unfold Fg jh Qa;rw[show yu (ay S).2.2.1 (cZ e).1=_ from Zh (S.ps.map dc) e.1 (by grind),at0]
 rcases rV S.ps dc (λx=>rfl) e.1 with⟨h1,h2⟩|⟨k,x,hk,h1,h2,O,L,U⟩
 ·rw[h1,h2];simp only[J];cases xq S e.1 e.2.2.1 with
  |false=>rfl
  |true=>simp only[K0];show(bif e.2.2.2.2.1 then _ else _)=_;cases e.2.2.2.2.1<;>rfl
 ·simp only[h1];show((ag (S.ps.map dc) (k:Int)).bind _).bind _=_;rw[aI hk];obtain⟨_,M,Z⟩:=F.ps x L;simp only[K0]
  have Y:(decide ((dc x).2.1.1=(cZ e).2.1.1.1)&&(decide ((dc x).2.1.2.1=(cZ e).2.1.1.2.1)&&(decide ((dc x).2.1.2.2=(cZ e).2.1.1.2.2)&&decide ((dc x).2.2=(cZ e).2.1.2))))=decide (x.2=e.2.1):=by
   by_cases g:x.2=e.2.1
   ·rw[dY g];have:(dc x).2=(cZ e).2.1:=by show aO x.2=aO e.2.1;rw[g]
    grind
   ·rw[dN g];cases D:(decide ((dc x).2.1.1=(cZ e).2.1.1.1)&&(decide ((dc x).2.1.2.1=(cZ e).2.1.1.2.1)&&(decide ((dc x).2.1.2.2=(cZ e).2.1.1.2.2)&&decide ((dc x).2.2=(cZ e).2.1.2))))with
    |false=>rfl
    |true=>simp only[au0,decide_eq_true_eq]at D;exact absurd (Lt M he.cD (Prod.ext (Prod.ext D.1 (Prod.ext D.2.1 D.2.2.1)) D.2.2.2)) g
  grind
theorem aqH(S:aP)(D:cR S)(e:bN):FC (ao S) e=some (jh S e):=by
 have J:=D.xU;have F:=has_eq S D e.1 e.2.2.1;have F:Aj (ao S).2.2.2.1 e.1 e.2.2.1=_:=F;unfold FC jh;rw[show wE (ao S).2.2.1 e.1=_ from ack S.ps e.1 (by omega)]
 grind
def qC(a b:Nat):Bool:=decide ((a&&&(4294967295-b))=0)
def jJ(s:aa):Nat:=(jI s).getD 0
theorem Mf(s:aa)(hs:s.length<=20000):jJ s<67108864:=by
 unfold jJ;cases e:jI s with
 |none=>simp
 |some n=>
  obtain⟨F,_,f1,f2,f3⟩:=J2 s hs;have h1:=(Te F f2).2;rw[f3 n e]at h1
  have h2:2^F.length<=2^26:=by
   have:2^F.length<=2^26:=aA8 (by simp) f1
   grind
  grind
theorem aoY(a b:Nat)(D:a<4294967296)(F:b<4294967296):C' (a:Int) (b:Int)=some (qC a b):=by
 unfold C' qC;rw[u32_andNot_nat a b D F];by_cases h:a&&&(4294967295-b)=0
 ·simp
 ·simp
theorem Mm(a i:Nat)(F:i<32):((a:Int).fdiv (2^(min ((i:Nat):Int).toNat (av9 .u32)))).tmod 2=if a.testBit i=true then 1 else 0:=by
 have D:min (i:Int).toNat (av9 .u32)=i:=by rw[av0];exact aF3 (show i<=32 by omega)
 grind
theorem akg(a b:Nat)(J:a<4294967296)(M:b<4294967296):K9 (a:Int) (b:Int)=some (qC a b):=by
 have h:=lz (f:=D1) (aA2 32) (λi=> !(a.testBit i&& !b.testBit i)) (λk=>((a:Int),(b:Int),(k:Int),())) (au6 ()) (au8 ())
  (fun k hk hp=>by
   have hk:k<32:=by grind
   rw[List.getElem_range]at hp;simp only[D1,dY (show(k:Int)<32 by omega),cond_true,ai (show(0:Int)<=(k:Int) by omega),ai (show(2:Int)≠0 by decide),Mm a k hk,Mm b k hk,aS,aC (show k+1<=4611686018427387904 by omega)]
   cases h1:a.testBit k with
   |false=>rfl
   |true=>cases h2:b.testBit k with
    |true=>grind
    |false=>rw[h1,h2]at hp;cases hp)
  (fun k hk hp=>by
   have hk:k<32:=by grind
   rw[List.getElem_range]at hp;simp only[D1,dY (show(k:Int)<32 by omega),cond_true,ai (show(0:Int)<=(k:Int) by omega),ai (show(2:Int)≠0 by decide),Mm a k hk,Mm b k hk]
   cases h1:a.testBit k with
   |false=>grind
   |true=>cases h2:b.testBit k with
    |true=>grind
    |false=>simp only[if_true,av7,if_false,decide_true,cond_true])
  rfl
 unfold K9;rw[show ae D1 ((a:Int),(b:Int),0,())=_ from h,at0]
 have hu:((aA2 32).all λi=> !(a.testBit i&& !b.testBit i))=qC a b:=by
  unfold qC;by_cases D:a&&&(4294967295-b)=0
  ·rw[dY D,ax0];intro i F;have F:i<32:=List.mem_range.1 F;have:=congrArg (λn:Nat=>n.testBit i) D;simp only[Nat.testBit_and,Nat.zero_testBit]at this;rw[show 4294967295-b=2^32-(b+1) by omega,aI4 (by omega)]at this
   grind
  ·rw[dN D];cases L:(aA2 32).all λi=> !(a.testBit i&& !b.testBit i)with
   |false=>rfl
   |true=>
    exfalso;apply D;apply Nat.eq_of_testBit_eq;intro i;rw[Nat.testBit_and,Nat.zero_testBit,show 4294967295-b=2^32-(b+1) by omega,aI4 (by omega)]
    grind
 rw[hu];cases qC a b<;>rfl
theorem akb(s t:aa)(hs:s.length<=20000)(D:t.length<=20000)(h1:pF s=true)(h2:pF t=true):K6 s t=some (qC (jJ s) (jJ t)):=by
 obtain⟨F,f0,f1,f2,f3⟩:=J2 s hs;obtain⟨G,g0,g1,g2,g3⟩:=J2 t D
 have J:fX F=(jJ s):=by
  unfold pF at h1;unfold jJ;cases e:jI s with
  |none=>grind
  |some n=>grind
 have L:fX G=(jJ t):=by
  unfold pF at h2;unfold jJ;cases e:jI t with
  |none=>grind
  |some n=>grind
 have:=Mf s hs;have:=Mf t D;unfold K6;simp only[f0,g0,at0,Xo F f2 f1,Xo G g2 g1,J,L,akg _ _ (show jJ s<4294967296 by omega) (show jJ t<4294967296 by omega)]
abbrev aq:=bN×aa×Int
def aJ(x:aq):ov:=((cZ x.1,x.2.1),x.2.2)
def AW(S:aP)(cl:aa)(e:bN)(src:aa):Bool:=qC (jJ e.2.2.2.1) (jJ cl)&&cE (mg S e.1) src
def gp(S:aP)(cl src:aa)(e:bN):List aq:=if AW S cl e src=true then[(e,src,jh S e)]else[]
def ji(S:aP)(cl:aa)(cat:List kh):List aq:=cat.flatMap λx=>x.2.flatMap (gp S cl x.1)
theorem E9{α β:Type}(l:List α)(e:α->List β)(n:Nat)(he:∀x∈l,(e x).length<=n):(l.flatMap e).length<=n*l.length:=by
 induction l with
 |nil=>grind
 |cons x t D=>rw[aI5,au5,av1,aA4];have:=he x aw4;have:=D (by grind);omega
theorem Sm(S:aP)(cl src:aa)(e:bN):(gp S cl src e).length<=1:=by grind[gp]
theorem anC(S:aP)(J:cR S)(cl:aa)(N:cl.length<=80)(src:aa)(l:List bN)(L:∀e∈l,dM e)(Y:l.length<=60)(D:List aft)(a b:Int)(acc:List ov)(M:acc.length<=1000):
  ae zo (fY cl,D,a,b,l.map cZ,((l.map cZ).length:Int),0,(ay S).1,(ay S).2.1,(ay S).2.2.1,(ay S).2.2.2.1,(ay S).2.2.2.2,src,l.map cZ,acc,())=
   some (fY cl,D,a,b,(ay S).1,(ay S).2.1,(ay S).2.2.1,(ay S).2.2.2.1,(ay S).2.2.2.2,acc++(l.flatMap (gp S cl src)).map aJ,()):=by
 have U:=Mf cl (by omega)
 have h:=tM (f:=zo) l (λe=>(gp S cl src e).map aJ) (λk x=>(fY cl,D,a,b,l.map cZ,((l.map cZ).length:Int),(k:Int),(ay S).1,(ay S).2.1,(ay S).2.2.1,(ay S).2.2.2.1,(ay S).2.2.2.2,src,l.map cZ,acc++x,()))
  (fun x=>(fY cl,D,a,b,(ay S).1,(ay S).2.1,(ay S).2.2.1,(ay S).2.2.2.1,(ay S).2.2.2.2,acc++x,())) (λk hk=>by
   have hlen:=rZ (l.take k) (λe=>(gp S cl src e).map aJ) (λx=>by rw[au1];exact Sm _ _ _ _)
   rw[aw7]at hlen;have O:k<(l.map cZ).length:=by rw[au1];exact hk
   have he:=L _ (at2 hk);have hle:=Mf (l[k]).2.2.2.1 (by have:=he.short.2.2;omega)
   have hu:=aoY (jJ (l[k]).2.2.2.1) (jJ cl) (by omega) (by omega)
   have hu:C' (cZ l[k]).2.2.2.1 (fY cl)=_:=hu;have F:=anh S J (l[k]).1 src (by have:=he.short.1;omega)
   have F:DF ((ay S).1,(ay S).2.1,(ay S).2.2.1,(ay S).2.2.2.1,(ay S).2.2.2.2) (cZ l[k]).1 src=_:=F;have hw:=arU S J l[k] he;have hw:Fg ((ay S).1,(ay S).2.1,(ay S).2.2.1,(ay S).2.2.2.1,(ay S).2.2.2.2) (cZ l[k])=_:=hw;simp (disch:=omega) only[K0,zo,ax8,hu];show _=some (au6 (fY cl,D,a,b,l.map cZ,((l.map cZ).length:Int),((k+1:Nat):Int),(ay S).1,(ay S).2.1,(ay S).2.2.1,(ay S).2.2.2.1,(ay S).2.2.2.2,src,l.map cZ,acc++(((l.take k).flatMap λe=>(gp S cl src e).map aJ)++(gp S cl src l[k]).map aJ),()));generalize(l.take k).flatMap (λe=>(gp S cl src e).map aJ)=X at hlen⊢;unfold gp AW;cases h1:qC (jJ (l[k]).2.2.2.1) (jJ cl)with
   |false=>simp only[cond_false,aA6,av7,if_false,List.map_nil,aw5]
   |true=>
    simp only[K0,F];cases h2:cE (mg S (l[k]).1) src with
    |false=>simp only[cond_false,av7,if_false,List.map_nil,aw5]
    |true=>
     simp only[K0,hw];rw[ai (by simp only[au5];omega)]
     simp only[aw9];rfl) (by
   simp only[zo,au1,av8,decide_false,cond_false])
 simp_all[List.map_flatMap]
theorem abC(S:aP)(cl:aa)(cat:List kh)(hC:∀x∈cat,Gf x):(ji S cl cat).length<=60*cat.length:=
 E9 cat _ 60 λx D=>aw8 (rZ x.2 _ (Sm S cl x.1)) (hC x D).many
theorem aqU(S:aP)(J:cR S)(cl:aa)(L:cl.length<=80)(cat:List kh)(hC:pA cat):
  ae zn (fY cl,cat.map gZ,((cat.map gZ).length:Int),0,(ay S).1,(ay S).2.1,(ay S).2.2.1,(ay S).2.2.2.1,(ay S).2.2.2.2,[],())=
   some ((ay S).1,(ay S).2.1,(ay S).2.2.1,(ay S).2.2.2.1,(ay S).2.2.2.2,(ji S cl cat).map aJ,()):=by
 have M:=hC.many
 have h:=tM (f:=zn) cat (λx=>(x.2.flatMap (gp S cl x.1)).map aJ) (λk x=>(fY cl,cat.map gZ,((cat.map gZ).length),k,(ay S).1,(ay S).2.1,(ay S).2.2.1,(ay S).2.2.2.1,(ay S).2.2.2.2,x,()))
  (λx=>((ay S).1,(ay S).2.1,(ay S).2.2.1,(ay S).2.2.2.1,(ay S).2.2.2.2,x,())) (λk hk=>by
   have N:k<(cat.map gZ).length:=by grind
   have D:=hC.all _ (at2 hk);have hlen:=E9 (cat.take k) (λx=>(x.2.flatMap (gp S cl x.1)).map aJ) 60 (λx D=>by rw[au1];exact aw8 (rZ x.2 _ (Sm S cl x.1)) (hC.all x (List.take_subset _ _ D)).many)
   rw[aw7]at hlen;have F:=anC S J cl L (cat[k]).1 (cat[k]).2 D.dp D.many (cat.map gZ) ((cat.map gZ).length) k ((cat.take k).flatMap λx=>(x.2.flatMap (gp S cl x.1)).map aJ) (by omega)
   have F:ae zo (fY cl,cat.map gZ,((cat.map gZ).length),k,(gZ cat[k]).2,((gZ cat[k]).2.length),0,(ay S).1,(ay S).2.1,(ay S).2.2.1,(ay S).2.2.2.1,(ay S).2.2.2.2,(gZ cat[k]).1,(gZ cat[k]).2,((cat.take k).flatMap λx=>(x.2.flatMap (gp S cl x.1)).map aJ),())=_:=F;simp (disch:=omega) only[K0,zn,ax8,F]) (by
   simp only[zn,au1,av8,decide_false,cond_false])
 grind[ji,List.map_flatMap]
def iR(S:aP):ov->ov->Int:=fF (λx y=>cI x.1.1.1 y.1.1.1) (fF (λx y=>eL y.1.1.2.1 x.1.1.2.1) (λx y=>xt S x.1.2 y.1.2))
theorem ZQ(S:aP):eG (iR S):=(Fy.on (λx:ov=>x.1.1.1)).lex ((aoD.flip.on (λx:ov=>x.1.1.2.1)).lex ((aql S).on (λx:ov=>x.1.2)))
theorem FB{S:aP}{cl:aa}{cat:List kh}{y:aq}(h:y∈ji S cl cat):∃x∈cat,y.1∈x.2/\y.2.1=x.1/\y.2.2=jh S y.1/\AW S cl y.1 y.2.1=true:=by
 obtain⟨x,D,h⟩:=List.mem_flatMap.1 h;obtain⟨e,he,h⟩:=List.mem_flatMap.1 h;unfold gp at h;split at h
 ·grind
 ·grind
theorem Zo{α β:Type}{l:List α}{f:α->β}(h:(l.map f).Nodup){x y:α}(D:x∈l)(F:y∈l)(e:f x=f y):x=y:=by
 induction l with
 |nil=>grind
 |cons a t J=>grind
theorem aqZ{S:aP}{cl:aa}{cat:List kh}(hC:pA cat){y z:aq}(U:y∈ji S cl cat)(Y:z∈ji S cl cat)(h1:y.1.1=z.1.1)(h2:y.1.2.1=z.1.2.1)(N:y.2.1=z.2.1):y=z:=by
 obtain⟨x,D,F,a2,a3,_⟩:=FB U;obtain⟨x',O,J,Z,b3,_⟩:=FB Y;have L:x=x':=Zo hC.once D O (by grind)
 subst L;have M:y.1=z.1:=Zo (hC.all x D).once F J (Prod.ext h1 h2);exact Prod.ext M (Prod.ext N (by grind))
theorem FL{S:aP}{cl:aa}{cat:List kh}(hC:pA cat){y:aq}(J:y∈ji S cl cat):dM y.1:=by obtain⟨x,F,D,_⟩:=FB J;exact(hC.all x F).dp _ D
theorem aqk(S:aP)(D:cR S)(x y:aq)(F:dM x.1)(J:dM y.1):qi (aJ x) (aJ y) (ay S)=some (iR S (aJ x) (aJ y)):=by
 have L:=Ef (s:=x.1.2.1) (by have:=F.short.2.1;omega)
 have M:=Ef (s:=y.1.2.1) (by have:=J.short.2.1;omega)
 unfold qi iR fF;rw[DE,at0];by_cases h1:cI (aJ x).1.1.1 (aJ y).1.1.1=0
 ·rw[dY h1];simp only[K0];rw[show tC (aJ y).1.1.2.1 (aJ x).1.1.2.1=_ from Je _ _ M L,at0]
  by_cases h2:eL (aJ y).1.1.2.1 (aJ x).1.1.2.1=0
  ·rw[dY h2];simp (disch:=omega) only[K0,alz S D]
  ·grind
 ·grind
theorem aa7(S:aP)(Y:cR S)(cl:aa)(cat:List kh)(hC:pA cat):iz (λz:ov=>z∈(ji S cl cat).map aJ) (λx y=>qi x y (ay S)) (iR S):=
 (ZQ S).ok (λx y J L=>by
  obtain⟨a,D,rfl⟩:=ax1.1 J;obtain⟨b,F,rfl⟩:=ax1.1 L;exact aqk S Y a b (FL hC D) (FL hC F)) (λx y J L h=>by
  obtain⟨a,D,rfl⟩:=ax1.1 J;obtain⟨b,F,rfl⟩:=ax1.1 L;obtain⟨h1,h2⟩:=o6 h;obtain⟨h2,U⟩:=o6 h2;have M:a.1.1=b.1.1:=rS h1;have N:aO b.1.2.1=aO a.1.2.1:=YQ h2;have O:a.2.1=b.2.1:=aoF U;rw[aqZ hC D F M (Lt (FL hC D).cD (FL hC F).cD N.symm) O])
theorem ZP(S:aP)(x y:aq):iR S (aJ x) (aJ y)=if cI x.1.1 y.1.1=0 then(if eL (aO y.1.2.1) (aO x.1.2.1)=0 then xt S x.2.1 y.2.1 else eL (aO y.1.2.1) (aO x.1.2.1))else cI x.1.1 y.1.1:=rfl
theorem aqC(S:aP)(J:cR S)(x y:aq)(D:dM x.1)(F:dM y.1)(L:x.2.1.length<=20000):EW (ao S) x y=some (decide (iR S (aJ x) (aJ y)<0)):=by
 unfold EW;rw[y8 _ _ (by have:=D.short.1;omega),at0,ZP]
 by_cases h1:cI x.1.1 y.1.1=0
 ·rw[dY h1,if_pos h1];simp only[cond_true];rw[DK _ (by have:=D.short.2.1;omega),DK _ (by have:=F.short.2.1;omega),D.cD,F.cD]
  simp only[if_true,at0];rw[aiF F.cD D.cD (by have:=F.short.2.1;omega) (by have:=D.short.2.1;omega),at0]
  by_cases h2:eL (aO y.1.2.1) (aO x.1.2.1)=0
  ·rw[dY h2,if_pos h2];simp only[cond_true];rw[alC S J _ _ L];rfl
  ·grind
 ·grind
theorem amt(S:aP)(N:cR S)(x:aq)(Z:dM x.1)(Y:x.2.1.length<=20000)(out:List aq)(U:∀y∈out,dM y.1)(hn:out.length<=1000)(cl:aa)(cat:List kh)(a b:Int):
  ∃k,k<=out.length/\ae tK (cl,cat,out,a,b,(out.length:Int),(ao S).1,(ao S).2.1,(ao S).2.2.1,(ao S).2.2.2.1,(ao S).2.2.2.2,x.1.1,x.1.2.1,x.1.2.2.1,x.1.2.2.2.1,x.1.2.2.2.2.1,x.1.2.2.2.2.2.1,x.1.2.2.2.2.2.2.1,x.1.2.2.2.2.2.2.2,x.2.1,x.2.2,())=
   some (cl,cat,out,a,b,(k:Int),(ao S).1,(ao S).2.1,(ao S).2.2.1,(ao S).2.2.2.1,(ao S).2.2.2.2,x.1.1,x.1.2.1,x.1.2.2.1,x.1.2.2.2.1,x.1.2.2.2.2.1,x.1.2.2.2.2.2.1,x.1.2.2.2.2.2.2.1,x.1.2.2.2.2.2.2.2,x.2.1,x.2.2,())/\
   (∀j (h:j<out.length),k<=j->iR S (aJ x) (aJ out[j])<0)/\(∀h:0<k,∀h2:k-1<out.length,¬iR S (aJ x) (aJ out[k-1])<0):=by
 have main:∀n k,k=n->k<=out.length->(∀j (h:j<out.length),k<=j->iR S (aJ x) (aJ out[j])<0)->∃D,D<=out.length/\ae tK (cl,cat,out,a,b,(k:Int),(ao S).1,(ao S).2.1,(ao S).2.2.1,(ao S).2.2.2.1,(ao S).2.2.2.2,x.1.1,x.1.2.1,x.1.2.2.1,x.1.2.2.2.1,x.1.2.2.2.2.1,x.1.2.2.2.2.2.1,x.1.2.2.2.2.2.2.1,x.1.2.2.2.2.2.2.2,x.2.1,x.2.2,())=
   some (cl,cat,out,a,b,(D:Int),(ao S).1,(ao S).2.1,(ao S).2.2.1,(ao S).2.2.2.1,(ao S).2.2.2.2,x.1.1,x.1.2.1,x.1.2.2.1,x.1.2.2.2.1,x.1.2.2.2.2.1,x.1.2.2.2.2.2.1,x.1.2.2.2.2.2.2.1,x.1.2.2.2.2.2.2.2,x.2.1,x.2.2,())/\
   (∀j (h:j<out.length),D<=j->iR S (aJ x) (aJ out[j])<0)/\(∀h:0<D,∀h2:D-1<out.length,¬iR S (aJ x) (aJ out[D-1])<0):=by
  intro n
  induction n with
  |zero=>
   intro k hk M F;subst hk;refine⟨0,au2 _,bf ?_,F,λh=>by omega⟩
   simp only[tK,show decide ((0:Int)<((0:Nat):Int))=false by decide,cond_false]
  |succ n ih=>
   intro k hk M F;subst hk;have O:n<out.length:=by omega
   have L:((n+1:Nat):Int)-1=((n:Nat):Int):=by omega
   have J:=aqC S N x out[n] Z (U _ (at2 O)) Y;have J:EW ((ao S).1,(ao S).2.1,(ao S).2.2.1,(ao S).2.2.2.1,(ao S).2.2.2.2) ((x.1.1,x.1.2.1,x.1.2.2.1,x.1.2.2.2.1,x.1.2.2.2.2.1,x.1.2.2.2.2.2.1,x.1.2.2.2.2.2.2.1,x.1.2.2.2.2.2.2.2),x.2.1,x.2.2) out[n]=_:=J;by_cases c:iR S (aJ x) (aJ out[n])<0
   ·have e:tK (cl,cat,out,a,b,((n+1:Nat):Int),(ao S).1,(ao S).2.1,(ao S).2.2.1,(ao S).2.2.2.1,(ao S).2.2.2.2,x.1.1,x.1.2.1,x.1.2.2.1,x.1.2.2.2.1,x.1.2.2.2.2.1,x.1.2.2.2.2.2.1,x.1.2.2.2.2.2.2.1,x.1.2.2.2.2.2.2.2,x.2.1,x.2.2,())=some (.inl (cl,cat,out,a,b,(n:Int),(ao S).1,(ao S).2.1,(ao S).2.2.1,(ao S).2.2.2.1,(ao S).2.2.2.2,x.1.1,x.1.2.1,x.1.2.2.1,x.1.2.2.2.1,x.1.2.2.2.2.1,x.1.2.2.2.2.2.1,x.1.2.2.2.2.2.2.1,x.1.2.2.2.2.2.2.2,x.2.1,x.2.2,())):=by
      simp (disch:=omega) only[K0,tK,L,J]
    rw[bd e];refine ih n rfl (by omega) (λj h ah=>?_)
    by_cases d:j=n
    ·subst d;exact c
    ·exact F j h (by omega)
   ·refine⟨n+1,M,bf ?_,F,λ_ h2=>?_⟩
    ·simp (disch:=omega) only[K0,tK,L,J]
    ·exact c
 exact main _ _ rfl (at9 _) (λj h F=>by omega)
def L0(S:aP)(l:List aq):Prop:=l.Pairwise λx y=>¬iR S (aJ y) (aJ x)<0
theorem insert_sorted(S:aP)(out:List aq)(x:aq)(k:Nat)(hk:k<=out.length)(hs:L0 S out)(h1:∀j (h:j<out.length),k<=j->iR S (aJ x) (aJ out[j])<0)(h2:∀h:0<k,∀h2:k-1<out.length,¬iR S (aJ x) (aJ out[k-1])<0):
  L0 S (out.take k++[x]++out.drop k)/\(out.take k++[x]++out.drop k).Perm (out++[x]):=by
 have J:=ZQ S;constructor
 ·unfold L0 at*;rw[aw9,List.pairwise_append];have ht:(out.take k).Pairwise λx y=>¬iR S (aJ y) (aJ x)<0:=hs.sublist (List.take_sublist _ _);have U:(out.drop k).Pairwise λx y=>¬iR S (aJ y) (aJ x)<0:=hs.sublist (List.drop_sublist _ _);have Z:∀y∈out.drop k,iR S (aJ x) (aJ y)<0:=by intro y F;obtain⟨j,L,e⟩:=aC7 F;rw[aH4]at e;rw[<-e];exact h1 (k+j) _ (by omega)
  have ah:∀y∈out.take k,¬iR S (aJ x) (aJ y)<0:=by
   intro y F;obtain⟨j,L,e⟩:=aC7 F;rw[aw7]at L;rw[aH1]at e;have hl:=h2 (by omega) (by omega)
   rw[<-e];by_cases d:j=k-1
   ·grind
   ·have:=(aD6.1 hs) j (k-1) (by omega) (by omega) (by omega)
    have n1:=J.neg (aJ out[j]) (aJ out[k-1]);have n2:=J.neg (aJ out[k-1]) (aJ x);have n3:=J.neg (aJ out[j]) (aJ x);have:=J.tr (aJ out[j]) (aJ out[k-1]) (aJ x) (by omega) (by omega)
    omega
  refine⟨ht,?_,?_⟩
  ·show(x::out.drop k).Pairwise _;rw[List.pairwise_cons];refine⟨λy F=>?_,U⟩;have:=Z y F;have:=J.neg (aJ x) (aJ y);omega
  ·intro a O b D;rcases aw2.1 (show b∈x::out.drop k from D)with D|D
   ·rw[D];exact ah a O
   ·obtain⟨i,Y,M⟩:=aC7 O;obtain⟨j,L,N⟩:=aC7 D;rw[aw7]at Y;rw[ay3]at L;rw[aH1]at M;rw[aH4]at N;rw[<-M,<-N];exact(aD6.1 hs) i (k+j) (by omega) (by omega) (by omega)
 ·have h:=List.perm_append_comm (l₁:=[x]) (l₂:=out.drop k);have h:=List.Perm.append_left (out.take k) h;rw[<-aw9,<-aw9,ax4]at h;exact h
structure xw(S:aP)(raw out:List aq):Prop where
 perm:out.Perm raw
 sorted:L0 S out
theorem xw.len{S:aP}{raw out:List aq}(h:xw S raw out):out.length=raw.length:=h.perm.length_eq
theorem aqV(S:aP)(M:cR S)(cl:aa)(aE:cl.length<=80)(ar:pF cl=true)(cat:List kh)(i:Nat)(hi:i<cat.length)(U:Gf cat[i]):∀(n j:Nat) (raw out:List aq),(cat[i]).2.length-j=n->j<=(cat[i]).2.length->(∀y∈raw,dM y.1)->raw.length<=300+j->xw S raw out->
  ∃F,xw S (raw++((cat[i]).2.drop j).flatMap (gp S cl (cat[i]).1)) F/\
   ae rO (cl,cat,out,(i:Int),(j:Int),(ao S).1,(ao S).2.1,(ao S).2.2.1,(ao S).2.2.2.1,(ao S).2.2.2.2,())=some (cl,cat,F,(i:Int),(ao S).1,(ao S).2.1,(ao S).2.2.1,(ao S).2.2.2.1,(ao S).2.2.2.2,()):=by
 have J:∀{R:Type} (f:kh->Option R),(ag cat (i:Int)).bind f=f cat[i]:=λf=>aI hi f;have an:(cat[i]).1.length<=20000:=by have:=U.src;unfold bQ kI at this;simp only[au0,decide_eq_true_eq]at this;omega
 generalize cat[i]=X at U J an;have hm:=U.many;intro n
 induction n with
 |zero=>
  intro j raw out hn hj N hl hR;have e:j=X.2.length:=by omega
  subst e;refine⟨out,by rw[ay8,List.flatMap_nil,aw5];exact hR,bf ?_⟩
  simp only[rO,J,av8,decide_false,cond_false]
 |succ n ih=>
  intro j raw out hn hj N hl hR;have L:j<X.2.length:=by omega
  have he:=U.dp _ (at2 L);have Z:j+1<=4611686018427387904:=by omega
  have hu:=akb (X.2[j]).2.2.2.1 cl (by have:=he.short.2.2;omega) (by omega) he.HH ar
  have O:=akI S M (X.2[j]).1 (by have:=he.short.1;omega)
  have O:DY ((ao S).1,(ao S).2.1,(ao S).2.2.1,(ao S).2.2.2.1,(ao S).2.2.2.2) (X.2[j]).1=_:=O;have ah:=rQ (mg S (X.2[j]).1) X.1 (by have:=Ys S M (X.2[j]).1;omega)
  have hw:=aqH S M X.2[j];have hw:FC ((ao S).1,(ao S).2.1,(ao S).2.2.1,(ao S).2.2.2.1,(ao S).2.2.2.2) X.2[j]=_:=hw;rw[av6 L,aI5];by_cases D:AW S cl X.2[j] X.1=true
  ·have Y:gp S cl X.1 X.2[j]=[(X.2[j],X.1,jh S X.2[j])]:=by unfold gp;rw[if_pos D]
   unfold AW at D;rw[au0]at D;have az:∀y∈out,dM y.1:=λy hy=>N y (hR.perm.subset hy);have a1:=hR.len;obtain⟨k,k1,k2,k3,k4⟩:=amt S M (X.2[j],X.1,jh S X.2[j]) he an out az (by omega) cl cat (i:Int) (j:Int)
   obtain⟨s1,s2⟩:=insert_sorted S out (X.2[j],X.1,jh S X.2[j]) k k1 hR.sorted k3 k4;obtain⟨F,q1,q2⟩:=ih (j+1) (raw++[(X.2[j],X.1,jh S X.2[j])]) (out.take k++[(X.2[j],X.1,jh S X.2[j])]++out.drop k) (by omega) (by omega) (lu N he) (by rw[au5,List.length_singleton];omega) ⟨s2.trans (hR.perm.append_right _),s1⟩
   refine⟨F,by rw[Y,<-aw9];exact q1,?_⟩
   have e:rO (cl,cat,out,(i:Int),(j:Int),(ao S).1,(ao S).2.1,(ao S).2.2.1,(ao S).2.2.2.1,(ao S).2.2.2.2,())=some (.inl (cl,cat,out.take k++[(X.2[j],X.1,jh S X.2[j])]++out.drop k,(i:Int),((j+1:Nat):Int),(ao S).1,(ao S).2.1,(ao S).2.2.1,(ao S).2.2.2.1,(ao S).2.2.2.2,())):=by
    simp only[rO,J,dY (show(j:Int)<(X.2.length:Int) by omega),cond_true,aI L,hu,D.1,at0,av2,cond_false,O,ah,D.2,hw]
    have k2:ae tK (cl,cat,out,(i:Int),(j:Int),(out.length:Int),(ao S).1,(ao S).2.1,(ao S).2.2.1,(ao S).2.2.2.1,(ao S).2.2.2.2,(X.2[j]).1,(X.2[j]).2.1,(X.2[j]).2.2.1,(X.2[j]).2.2.2.1,(X.2[j]).2.2.2.2.1,(X.2[j]).2.2.2.2.2.1,(X.2[j]).2.2.2.2.2.2.1,(X.2[j]).2.2.2.2.2.2.2,X.1,jh S X.2[j],())=_:=k2;simp only[k2,at0,av0,show(0:Int).toNat=0 by rfl,ax7,ax6]
    rw[ai (by omega),ai (by rw[aw7];omega),ai (by rw[aw7];simp only[av1,ay2];omega),ai (by omega),ai (by rw[au5,aw7,ay3];simp only[av1,ay2];omega)]
    simp only[aS,aC Z]
   rw[bd e];exact q2
  ·have Y:gp S cl X.1 X.2[j]=[]:=by unfold gp;rw[if_neg D]
   obtain⟨F,q1,q2⟩:=ih (j+1) raw out (by omega) (by omega) N (by omega) hR
   refine⟨F,by rw[Y,List.nil_append];exact q1,?_⟩
   have e:rO (cl,cat,out,(i:Int),(j:Int),(ao S).1,(ao S).2.1,(ao S).2.2.1,(ao S).2.2.2.1,(ao S).2.2.2.2,())=some (.inl (cl,cat,out,(i:Int),((j+1:Nat):Int),(ao S).1,(ao S).2.1,(ao S).2.2.1,(ao S).2.2.2.1,(ao S).2.2.2.2,())):=by
    unfold AW at D;cases h1:qC (jJ (X.2[j]).2.2.2.1) (jJ cl)with
    |false=>simp only[rO,J,dY (show(j:Int)<(X.2.length:Int) by omega),cond_true,aI L,hu,h1,at0,aw3,aS,aC Z]
    |true=>
     rw[h1,az4]at D
     have D:cE (mg S (X.2[j]).1) X.1=false:=by cases h:cE (mg S (X.2[j]).1) X.1 with
      |true=>exact absurd h D
      |false=>rfl
     simp only[rO,J,dY (show(j:Int)<(X.2.length:Int) by omega),cond_true,aI L,hu,h1,at0,av2,cond_false,O,ah,D,aw3,aS,aC Z]
   rw[bd e];exact q2
theorem aqW(S:aP)(Y:cR S)(cl:aa)(Z:cl.length<=80)(ah:pF cl=true)(cat:List kh)(hC:pA cat):∀(n i:Nat) (out:List aq),cat.length-i=n->i<=cat.length->xw S (ji S cl (cat.take i)) out->
  ∃F,xw S (ji S cl cat) F/\ae zI (cl,cat,out,(i:Int),(ao S).1,(ao S).2.1,(ao S).2.2.1,(ao S).2.2.2.1,(ao S).2.2.2.2,())=some (F,(ao S).1,(ao S).2.1,(ao S).2.2.1,(ao S).2.2.2.1,(ao S).2.2.2.2,()):=by
 have h6:=hC.many;intro n
 induction n with
 |zero=>
  intro i out hn hi hR;have e:i=cat.length:=by omega
  subst e;refine⟨out,by rw[ax6]at hR;exact hR,bf ?_⟩
  simp[zI]
 |succ n ih=>
  intro i out hn hi hR;have J:i<cat.length:=by omega
  have D:=hC.all _ (at2 J);have M:∀x∈cat.take i,Gf x:=λx D=>hC.all x (List.take_subset _ _ D);have hl:=abC S cl (cat.take i) M;rw[aw7]at hl;obtain⟨A3,N,L⟩:=aqV S Y cl Z ah cat i J D _ 0 (ji S cl (cat.take i)) out rfl (au2 _) (λy hy=>by obtain⟨x,D,O,_⟩:=FB hy;exact(M x D).dp _ O) (by omega) hR
  have U:ji S cl (cat.take (i+1))=ji S cl (cat.take i)++(cat[i]).2.flatMap (gp S cl (cat[i]).1):=by unfold ji;rw[az5 J,List.flatMap_append];simp
  rw[ax7,<-U]at N;obtain⟨F,q3,q4⟩:=ih (i+1) A3 (by omega) (by omega) N
  refine⟨F,q3,?_⟩;have L:ae rO (cl,cat,out,i,0,(ao S).1,(ao S).2.1,(ao S).2.2.1,(ao S).2.2.2.1,(ao S).2.2.2.2,())=_:=L;have e:zI (cl,cat,out,i,(ao S).1,(ao S).2.1,(ao S).2.2.1,(ao S).2.2.2.1,(ao S).2.2.2.2,())=some (.inl (cl,cat,A3,(i+1),(ao S).1,(ao S).2.1,(ao S).2.2.1,(ao S).2.2.2.1,(ao S).2.2.2.2,())):=by simp (disch:=omega) only[K0,zI,L]
  rw[bd e];exact q4
theorem aj0{α:Type}(l:List α)(p q:α->Bool)(h:∀x∈l,p x=q x):l.any p=l.any q:=by grind
def mf(S:aP)(L:List aq)(x:aq):Bool:=decide (x.2.2=0)&&(match qG S x.1.1 with|some c=>L.any (λy=>decide (y.1.1=x.1.1)&&decide (y.2.2=0)&&decide (bC c.2.2 (λs=>decide (s=y.2.1))<bC c.2.2 (λs=>decide (s=x.2.1))))|none=>false)
def fE(S:aP)(L:List aq)(x:aq):aq:=if mf S L x=true then(x.1,x.2.1,4)else x
def jC(S:aP)(L:List aq):List aq:=L.map (fE S L)
theorem Yf{S:aP}{s:aa}{c:um}(h:qG S s=some c):c∈S.cs/\c.2.1=im/\0<=kK S s/\S.cs[(kK S s).toNat]? =some c:=by grind[qG]
theorem aj4{S:aP}{s:aa}{c:um}(h:qG S s=some c)(hs:dt s=true):mg S s=c.2.2:=by obtain⟨h1,h2,D,F⟩:=Yf h;unfold mg;rw[if_pos hs,if_pos D,F];show te S c=_;unfold te;rw[if_pos h2]
def cL(S:aP)(L:List aq)(i:Nat):List aq:=(L.take i).map (fE S L)++L.drop i
theorem Sj(S:aP)(L:List aq)(i:Nat):(cL S L i).length=L.length:=by grind[cL]
theorem L'(S:aP)(L:List aq)(i:Nat)(h:i<L.length)(h2:i<(cL S L i).length):(cL S L i)[i]=L[i]:=by grind[cL]
theorem Si(S:aP)(L:List aq)(i:Nat)(h:i<L.length):(cL S L i).set i (fE S L L[i])=cL S L (i+1):=by
 unfold cL;rw[List.set_append_right _ _ (by grind),au1,aw7,aF3 (Nat.le_of_lt h),Nat.sub_self,av6 h,List.set_cons_zero,az5 h,aw1]
 simp
theorem RC(S:aP)(L:List aq)(i:Nat)(h:i<L.length)(hk:fE S L L[i]=L[i]):cL S L (i+1)=cL S L i:=by
 rw[<-Si S L i h,hk]
 conv=>lhs;rw[<-L' S L i h (by rw[Sj];exact h)]
 simp
theorem EE(S:aP)(L:List aq)(y:aq):(fE S L y).1=y.1/\(fE S L y).2.1=y.2.1/\((fE S L y).2.2=4/\y.2.2=0\/(fE S L y).2.2=y.2.2):=by grind[fE,mf]
theorem apr(S:aP)(L:List aq)(i:Nat)(M:∀y∈L,¬y.2.2=4)(p:aa->aa->Bool):
  (cL S L i).any (λy=>p y.1.1 y.2.1&&(decide (y.2.2=0)||decide (y.2.2=4)))=L.any (λy=>p y.1.1 y.2.1&&decide (y.2.2=0)):=by
 have F:∀y∈L,(λy:aq=>p y.1.1 y.2.1&&(decide (y.2.2=0)||decide (y.2.2=4))) (fE S L y)=(λy:aq=>p y.1.1 y.2.1&&decide (y.2.2=0)) y:=λy N=>by
  obtain⟨h1,h2,D⟩:=EE S L y;show(p (fE S L y).1.1 (fE S L y).2.1&&(decide ((fE S L y).2.2=0)||decide ((fE S L y).2.2=4)))=(p y.1.1 y.2.1&&decide (y.2.2=0));rw[h1];rcases D with⟨D,J⟩|D
  ·grind
  ·grind
 unfold cL;rw[List.any_append,List.any_map]
 conv=>rhs;rw[<-ax4 i L]
 grind
theorem alN(S:aP)(e:bN):jh S e=0\/jh S e=1\/jh S e=2\/jh S e=3:=by grind[jh]
structure AK(S:aP)(L:List aq):Prop where
 dp:∀y∈L,dM y.1
 atc:∀y∈L,y.2.2=jh S y.1
 many:L.length<=360
theorem AK.no4{S:aP}{L:List aq}(h:AK S L):∀y∈L,¬y.2.2=4:=λy D g=>by rw[h.atc y D]at g;rcases alN S y.1 with q|q|q|q<;>rw[q]at g<;>exact absurd g (by simp)
def wZ(n:aa)(order:ak)(at_:Int)(y:aq):Bool:=(decide (y.1.1=n)&&decide (bC order (λs=>decide (s=y.2.1))<at_))&&(decide (y.2.2=0)||decide (y.2.2=4))
theorem ajc(S:aP)(M:List aq)(O:M.length<=360)(i:Nat)(U:i<M.length)(order:ak)(Y:order.length<=100)(at_:Int):
  Iu (M.map aJ) (M.map aJ) (i:Int) order at_=some (M.any (wZ (M[i]).1.1 order at_)):=by
 have N:i<(M.map aJ).length:=by grind
 have F:∀k (h:k<M.length),JK (aJ M[k]) (M.map aJ) i order at_=some (wZ (M[i]).1.1 order at_ M[k]):=by
  intro k h;have J:=LW order (M[k]).2.1 (by omega)
  have J:mL order (aJ M[k]).1.2=_:=J;unfold JK wZ;rw[aI N,ax8];by_cases c1:(M[k]).1.1=(M[i]).1.1
  ·rw[dY (show(aJ M[k]).1.1.1=(aJ M[i]).1.1.1 from c1)]
   simp[cond_true];by_cases c2:(M[k]).2.2=0
   ·rw[dY (show(aJ M[k]).2=0 from c2)]
    grind
   ·rw[dN (show¬(aJ M[k]).2=0 from c2)]
    simp only[K0];by_cases D:(M[k]).2.2=4
    ·rw[dY (show(aJ M[k]).2=4 from D)]
     grind
    ·rw[dN (show¬(aJ M[k]).2=4 from D)]
     grind
  ·rw[dN (show¬(aJ M[k]).1.1.1=(aJ M[i]).1.1.1 from c1)]
   grind
 have h:=jc (f:=yl) M (wZ (M[i]).1.1 order at_) (λk=>(M.map aJ,M.map aJ,i,order,at_,M.length,k,())) (λk=>au8 (k,())) (au6 ())
  (λk h hp=>by
   have L:k<(M.map aJ).length:=by grind
   simp (disch:=omega) only[K0,yl,ax8,F k h,hp])
  (λk h hp=>by
   have L:k<(M.map aJ).length:=by grind
   simp (disch:=omega) only[K0,yl,ax8,F k h,hp])
  (by simp[yl])
 unfold Iu PB;have h':ae yl (M.map aJ,M.map aJ,i,order,at_,((M.map aJ).length),0,())=some (match M.findIdx? (wZ (M[i]).1.1 order at_)with|some k=>au8 (k,())|none=>au6 ()):=by rw[au1];omega
 rw[h',<-List.findIdx?_isSome];cases M.findIdx? (wZ (M[i]).1.1 order at_)with
 |none=>rfl
 |some k=>simp
theorem apO(S:aP)(hS:cR S)(L:List aq)(hL:AK S L):Ed (ay S) (L.map aJ)=some ((jC S L).map aJ):=by
 have hm:=hL.many
 have main:∀n i,L.length-i=n->i<=L.length->ae oU ((L.length:Int),(i:Int),(ay S).1,(ay S).2.1,(ay S).2.2.1,(ay S).2.2.2.1,(ay S).2.2.2.2,(cL S L i).map aJ,())=some ((jC S L).map aJ,()):=by
  intro n
  induction n with
  |zero=>
   intro i hn hi;have e:i=L.length:=by omega
   subst e;refine bf ?_;have e2:cL S L L.length=jC S L:=by unfold cL jC;rw[ax6,ay8,aw5]
   simp only[oU,av8,decide_false,cond_false,e2]
  |succ n ih=>
   intro i hn hi;have J:i<L.length:=by omega
   have az:=Sj S L i;have ar:i<(cL S L i).length:=by omega
   have Y:i<((cL S L i).map aJ).length:=by grind
   have N:((cL S L i).map aJ)[i]=aJ L[i]:=by rw[ax8,L' S L i J]
   have hc:(0:Int)<=(i:Int)/\(i:Int)<(((cL S L i).map aJ).length:Int):=by omega
   have U:i+1<=4611686018427387904:=by omega
   have he:=hL.dp _ (at2 J);have ah:(L[i]).1.1.length<=20000:=by have:=he.short.1;omega
   have same:fE S L L[i]=L[i]->oU ((L.length:Int),(i:Int),(ay S).1,(ay S).2.1,(ay S).2.2.1,(ay S).2.2.2.1,(ay S).2.2.2.2,(cL S L i).map aJ,())=some (.inl ((L.length:Int),((i+1:Nat):Int),(ay S).1,(ay S).2.1,(ay S).2.2.1,(ay S).2.2.2.1,(ay S).2.2.2.2,(cL S L i).map aJ,()))->ae oU ((L.length:Int),(i:Int),(ay S).1,(ay S).2.1,(ay S).2.2.1,(ay S).2.2.2.1,(ay S).2.2.2.2,(cL S L i).map aJ,())=some ((jC S L).map aJ,()):=by intro h1 h2;rw[bd h2,<-RC S L i J h1];exact ih (i+1) (by omega) (by omega)
   by_cases c0:(L[i]).2.2=0
   ·have hf:=ap4 S hS (L[i]).1.1 ah;have hf:DU ((ay S).1,(ay S).2.1,(ay S).2.2.1,(ay S).2.2.2.1,(ay S).2.2.2.2) (aJ L[i]).1.1.1=_:=hf;cases F:qG S (L[i]).1.1 with
    |none=>
     rw[F]at hf;refine same ?_ ?_
     ·unfold fE mf;rw[F,aD5];rfl
     ·simp only[oU,dY (show(i:Int)<(L.length:Int) by omega),cond_true,ai hc,jl Y,N,dY (show(aJ L[i]).2=0 from c0),av2,cond_false,hf,at0,Option.isSome_none,aw3,aS,aC U]
    |some c=>
     rw[F]at hf;have M:=Yr S hS (L[i]).1.1 ah;rw[aj4 F he.name]at M;have M:yV ((ay S).1,(ay S).2.1,(ay S).2.2.1,(ay S).2.2.2.1,(ay S).2.2.2.2) (aJ L[i]).1.1.1=_:=M;have ho:c.2.2.length<=100:=by have:=(hS.cs c (Yf F).1).2.2.2.1;omega
     have Z:=LW c.2.2 (L[i]).2.1 (by omega)
     have Z:mL c.2.2 (aJ L[i]).1.2=_:=Z;have D:=ajc S (cL S L i) (by omega) i ar c.2.2 ho (bC c.2.2 λs=>decide (s=(L[i]).2.1))
     rw[L' S L i J]at D;have an:(cL S L i).any (wZ (L[i]).1.1 c.2.2 (bC c.2.2 λs=>decide (s=(L[i]).2.1)))=mf S L L[i]:=by have:=apr S L i hL.no4 (λn s=>decide (n=(L[i]).1.1)&&decide (bC c.2.2 (λz=>decide (z=s))<bC c.2.2 λs=>decide (s=(L[i]).2.1)));unfold mf;rw[F,dY c0,az4];refine Eq.trans this (aj0 _ _ _ λy hy=>?_);show(decide (y.1.1=(L[i]).1.1)&&decide (bC c.2.2 (λz=>decide (z=y.2.1))<bC c.2.2 λs=>decide (s=(L[i]).2.1))&&decide (y.2.2=0))=_;rw[aF9,aF9];congr 1;exact Bool.and_comm _ _
     rw[an]at D;cases O:mf S L L[i]with
     |false=>
      rw[O]at D;refine same ?_ ?_
      ·unfold fE;rw[O];rfl
      ·simp only[oU,dY (show(i:Int)<(L.length:Int) by omega),cond_true,ai hc,jl Y,N,dY (show(aJ L[i]).2=0 from c0),av2,cond_false,hf,at0,Option.isSome_some,M,Z,D,aS,aC U]
     |true=>
      rw[O]at D;have hl:fE S L L[i]=((L[i]).1,(L[i]).2.1,4):=by unfold fE;rw[O,if_pos rfl]
      have e:oU ((L.length:Int),(i:Int),(ay S).1,(ay S).2.1,(ay S).2.2.1,(ay S).2.2.2.1,(ay S).2.2.2.2,(cL S L i).map aJ,())=some (.inl ((L.length:Int),((i+1:Nat):Int),(ay S).1,(ay S).2.1,(ay S).2.2.1,(ay S).2.2.2.1,(ay S).2.2.2.2,(cL S L (i+1)).map aJ,())):=by
       rw[<-Si S L i J,hl];simp only[oU,dY (show(i:Int)<(L.length:Int) by omega),cond_true,ai hc,jl Y,N,dY (show(aJ L[i]).2=0 from c0),av2,cond_false,hf,at0,Option.isSome_some,M,Z,D,aS,aC U]
       simp only[av0,List.map_set];rfl
      rw[bd e];exact ih (i+1) (by omega) (by omega)
   ·refine same ?_ ?_
    ·unfold fE mf;rw[dN c0,aA6];rfl
    ·simp only[oU,dY (show(i:Int)<(L.length:Int) by omega),cond_true,ai hc,jl Y,N,dN (show¬(aJ L[i]).2=0 from c0),aw3,aS,aC U]
 unfold Ed;have:=main _ 0 rfl (au2 _);have this:ae oU ((L.length:Int),0,(ay S).1,(ay S).2.1,(ay S).2.2.1,(ay S).2.2.2.1,(ay S).2.2.2.2,L.map aJ,())=_:=this;rw[au1,this];rfl
theorem aai(l:ak)(v:aa)(D:l.length<=1000000):EU l v=some (bC l λx=>decide (x=v)):=by
 have h:=jc (f:=DX) l (λx=>decide (x=v)) (λk=>(l,v,k,())) (λk=>au8 (k,())) (au6 ()) (λk h hp=>by
  have hp:=of_decide_eq_false hp;simp (disch:=omega) only[K0,DX]) (λk h hp=>by
  have hp:=of_decide_eq_true hp;simp (disch:=omega) only[K0,DX]) (by
  simp[DX])
 grind[EU,bC]
def Nz(L:List aq)(x:aq)(order:ak)(y:aq):Bool:=decide (y.1.1=x.1.1)&&decide (y.2.2=0)&&decide (bC order (λs=>decide (s=y.2.1))<bC order (λs=>decide (s=x.2.1)))
theorem akv(S:aP)(L:List aq)(Z:L.length<=360)(i:Nat)(D:i<L.length)(order:ak)(ho:order.length<=100):∀(n m:Nat) (b:Bool),L.length-m=n->m<=L.length->
  ae zg (L,(i:Int),order,(m:Int),(ao S).1,(ao S).2.1,(ao S).2.2.1,(ao S).2.2.2.1,(ao S).2.2.2.2,(if b=true then(cL S L i).set i ((L[i]).1,(L[i]).2.1,4)else cL S L i),())=
   some (L,(i:Int),(ao S).1,(ao S).2.1,(ao S).2.2.1,(ao S).2.2.2.1,(ao S).2.2.2.2,(if(b||(L.drop m).any (Nz L L[i] order))=true then(cL S L i).set i ((L[i]).1,(L[i]).2.1,4)else cL S L i),()):=by
 have ah:=Sj S L i;intro n
 induction n with
 |zero=>
  intro m b N hm;have e:m=L.length:=by omega
  subst e;refine bf ?_;simp[zg]
 |succ n O=>
  intro m b N hm;have J:m<L.length:=by omega
  have U:=aai order (L[m]).2.1 (by omega)
  have Y:=aai order (L[i]).2.1 (by omega)
  have e:zg (L,i,order,m,(ao S).1,(ao S).2.1,(ao S).2.2.1,(ao S).2.2.2.1,(ao S).2.2.2.2,(if b=true then(cL S L i).set i ((L[i]).1,(L[i]).2.1,4)else cL S L i),())=
    some (.inl (L,i,order,((m+1:Nat):Int),(ao S).1,(ao S).2.1,(ao S).2.2.1,(ao S).2.2.2.1,(ao S).2.2.2.2,(if(b||Nz L L[i] order L[m])=true then(cL S L i).set i ((L[i]).1,(L[i]).2.1,4)else cL S L i),())):=by
   simp only[zg,aI J,aI D];unfold Nz;by_cases c1:(L[m]).1.1=(L[i]).1.1
   ·simp only[dY c1];by_cases c2:(L[m]).2.2=0
    ·simp only[dY c2,az4,U,Y];by_cases M:bC order (λs=>decide (s=(L[m]).2.1))<bC order (λs=>decide (s=(L[i]).2.1))
     ·simp only[dY M,Bool.or_true,if_true];cases b with
      |true=>
       have F:i<((cL S L i).set i ((L[i]).1,(L[i]).2.1,4)).length:=by rw[aA9];omega
       simp[if_true];simp (disch:=omega) only[K0];simp only[List.getElem_set_self]
      |false=>
       have F:i<(cL S L i).length:=by omega
       simp only[av7,if_false];rw[jl F,L' S L i D];simp (disch:=omega) only[K0]
     ·simp (disch:=omega) only[K0]
    ·simp (disch:=omega) only[K0]
   ·simp (disch:=omega) only[K0]
  rw[bd e,O (m+1) _ (by omega) (by omega),av6 J,aD7,Bool.or_assoc]
theorem aod(S:aP)(U:cR S)(L:List aq)(O:AK S L):EV (ao S) L=some (jC S L):=by
 have hm:=O.many
 have main:∀n i,L.length-i=n->i<=L.length->ae oY (L,i,(ao S).1,(ao S).2.1,(ao S).2.2.1,(ao S).2.2.2.1,(ao S).2.2.2.2,cL S L i,())=some (jC S L,()):=by
  intro n
  induction n with
  |zero=>
   intro i hn hi;have e:i=L.length:=by omega
   subst e;refine bf ?_;have e2:cL S L L.length=jC S L:=by unfold cL jC;rw[ax6,ay8,aw5]
   simp[oY,e2]
  |succ n ih=>
   intro i hn hi;have F:i<L.length:=by omega
   have ah:i+1<=4611686018427387904:=by omega
   have he:=O.dp _ (at2 F);have hc:=ZS S U (L[i]).1.1 (by have:=he.short.1;omega)
   have hc:=hc;have same:fE S L L[i]=L[i]->oY (L,i,(ao S).1,(ao S).2.1,(ao S).2.2.1,(ao S).2.2.2.1,(ao S).2.2.2.2,cL S L i,())=some (.inl (L,((i+1):Int),(ao S).1,(ao S).2.1,(ao S).2.2.1,(ao S).2.2.2.1,(ao S).2.2.2.2,cL S L i,()))->ae oY (L,i,(ao S).1,(ao S).2.1,(ao S).2.2.1,(ao S).2.2.2.1,(ao S).2.2.2.2,cL S L i,())=some (jC S L,()):=by intro h1 h2;rw[bd h2,<-RC S L i F h1];exact ih (i+1) (by omega) (by omega)
   by_cases c0:(L[i]).2.2=0
   ·rcases KB (L[i]).1.1 (mm S)with h|⟨j,M,h,_⟩
    ·have h:kK S (L[i]).1.1= -1:=h;refine same ?_ ?_
     ·unfold fE mf qG;rw[h,if_neg (show¬0<= -1 by decide),aD5];rfl
     ·simp (disch:=omega) only[K0,oY,hc]
    ·have h:kK S (L[i]).1.1=(j:Int):=h;have N:j<S.cs.length:=by unfold mm at M;rw[au1]at M;exact M
     have J:qG S (L[i]).1.1=if(S.cs[j]).2.1=im then some S.cs[j]else none:=by
      unfold qG;rw[h,if_pos (show(0:Int)<=(j:Int) by omega),av0,au4 N]
      by_cases g:(S.cs[j]).2.1=im
      ·simp [g]
      ·simp [g]
     have Z:∀{R:Type} (f:um->Option R),(ag (ao S).2.1 (j:Int)).bind f=f S.cs[j]:=λf=>aI (l:=S.cs) N f;by_cases g:(S.cs[j]).2.1=im
     ·rw[if_pos g]at J;have ho:(S.cs[j]).2.2.length<=100:=by have:=(U.cs _ (at2 N)).2.2.2.1;omega
      have D:=akv S L hm i F (S.cs[j]).2.2 ho _ 0 false rfl (au2 _);rw[ax7,Bool.false_or]at D;have hb:L.any (Nz L L[i] (S.cs[j]).2.2)=mf S L L[i]:=by unfold mf;rw[J,dY c0,az4];rfl
      rw[hb]at D
      have hl:(if mf S L L[i]=true then(cL S L i).set i ((L[i]).1,(L[i]).2.1,4)else cL S L i)=cL S L (i+1):=by
       cases Y:mf S L L[i]with
       |true=>rw[if_pos rfl,<-Si S L i F];unfold fE;rw[Y,if_pos rfl]
       |false=>rw[if_neg (by simp),RC S L i F (by unfold fE;rw[Y];rfl)]
      rw[hl]at D;have D:ae zg (L,i,(S.cs[j]).2.2,0,(ao S).1,(ao S).2.1,(ao S).2.2.1,(ao S).2.2.2.1,(ao S).2.2.2.2,cL S L i,())=_:=D;have e:oY (L,i,(ao S).1,(ao S).2.1,(ao S).2.2.1,(ao S).2.2.2.1,(ao S).2.2.2.2,cL S L i,())=some (.inl (L,((i+1):Int),(ao S).1,(ao S).2.1,(ao S).2.2.1,(ao S).2.2.2.1,(ao S).2.2.2.2,cL S L (i+1),())):=by simp (disch:=omega) only[K0,oY,hc,h,Z,D]
      rw[bd e];exact ih (i+1) (by omega) (by omega)
     ·rw[if_neg g]at J;refine same ?_ ?_
      ·unfold fE mf;rw[J,aD5];rfl
      ·simp (disch:=omega) only[K0,oY,hc,h,Z]
   ·refine same ?_ ?_
    ·unfold fE mf;rw[dN c0,aA6];rfl
    ·simp (disch:=omega) only[K0,oY,hc]
 unfold EV;rw[ai (by omega)]
 have:=main _ 0 rfl (au2 _);have this:ae oY (L,0,(ao S).1,(ao S).2.1,(ao S).2.2.1,(ao S).2.2.2.1,(ao S).2.2.2.2,L,())=_:=this;rw[this];rfl
theorem ao7(S:aP)(D:cR S)(cl:aa)(N:cl.length<=80)(Y:pF cl=true)(cat:List kh)(hC:pA cat):
  ∃L,xw S (ji S cl cat) L/\AK S L/\Lr (ay S) (fY cl) (cat.map gZ)=some ((jC S L).map aJ)/\L3 (ao S) cl cat=some (jC S L):=by
 have h6:=hC.many;have ah:=abC S cl cat hC.all;obtain⟨L,hR,O⟩:=aqW S D cl N Y cat hC _ 0 [] rfl (au2 _) ⟨.refl _,List.Pairwise.nil⟩;have F:AK S L:=⟨λy J=>FL hC (hR.perm.subset J),λy J=>(FB (hR.perm.subset J)).elim λx h=>h.2.2.2.1,by rw[hR.len];omega⟩
 obtain⟨o,o1,M,o3⟩:=aiz (ay S) (aa7 S D cl cat hC) ((ji S cl cat).map aJ) (λx h=>h) (by grind)
 have U:(L.map aJ).Pairwise λx y=>¬iR S y x<0:=by rw[List.pairwise_map];exact hR.sorted
 have Z:=Xm (aa7 S D cl cat hC) (λx hx=>M.subset hx) (M.trans (hR.perm.map aJ).symm) o3 U;refine⟨L,hR,F,?_,?_⟩
 ·unfold Lr;rw[show ae zn (fY cl,cat.map gZ,((cat.map gZ).length),0,(ay S).1,(ay S).2.1,(ay S).2.2.1,(ay S).2.2.2.1,(ay S).2.2.2.2,[],())=_ from aqU S D cl N cat hC,at0]
  simp only[];rw[show CE ((ay S).1,(ay S).2.1,(ay S).2.2.1,(ay S).2.2.2.1,(ay S).2.2.2.2) ((ji S cl cat).map aJ)=_ from o1,at0,ai (by rw[M.length_eq]),Z]
  rw[show Ed ((ay S).1,(ay S).2.1,(ay S).2.2.1,(ay S).2.2.2.1,(ay S).2.2.2.2) (L.map aJ)=_ from apO S D L F,at0,ai (by unfold jC;rw[au1,au1,au1])]
 ·unfold L3;rw[show ae zI (cl,cat,[],0,(ao S).1,(ao S).2.1,(ao S).2.2.1,(ao S).2.2.2.1,(ao S).2.2.2.2,())=_ from O,at0]
  simp only[];rw[show EV ((ao S).1,(ao S).2.1,(ao S).2.2.1,(ao S).2.2.2.1,(ao S).2.2.2.2) L=_ from aod S D L F];rfl
abbrev uF:=nH×aa
def bw(x:aq):uF:=(cZ x.1,x.2.1)
def Gp(M:List aq):List aq:=M.filter λx=>decide (x.2.2=0)
theorem asB(M:List aq)(F:M.length<=360):Ls (M.map aJ)=some ((Gp M).map bw):=by
 have h:=tM (f:=Ee) M (λx=>if decide (x.2.2=0)=true then[bw x]else[]) (λk acc=>(M.map aJ,((M.map aJ).length),k,acc,())) (λacc=>(acc,()))
  (fun k hk=>by
   have hlen:=rZ (M.take k) (λx=>if decide (x.2.2=0)=true then[bw x]else[]) (λx=>by show(if _ then[bw x]else[]).length<=1;split<;>simp)
   rw[aw7]at hlen;have D:k<(M.map aJ).length:=by rw[au1];exact hk
   generalize(M.take k).flatMap (λx=>if decide (x.2.2=0)=true then[bw x]else[])=acc at hlen⊢
   simp only[Ee,dY (show(k:Int)<((M.map aJ).length) by omega),cond_true,aI D,ax8]
   by_cases c:(M[k]).2.2=0
   ·simp[dY (show(aJ M[k]).2=0 from c)]
    rw[ai (by grind)]
    simp (disch:=omega) only[K0];rfl
   ·simp only[dN (show¬(aJ M[k]).2=0 from c),dN c,av7,if_false,cond_false,aS,aC (show k+1<=4611686018427387904 by omega),aw5]) (by
   simp[Ee])
 unfold Ls;rw[show ae Ee (M.map aJ,((M.map aJ).length),0,[],())=_ from h]
 refine congrArg some ?_;unfold Gp;rw[KD,List.map_flatMap];congr 1;funext x;cases decide (x.2.2=0)<;>rfl
theorem arR(M:List aq)(D:M.length<=360):L4 M=some (Gp M):=by
 have h:=tM (f:=EX) M (λx=>if decide (x.2.2=0)=true then[x]else[]) (λk acc=>(M,k,acc,())) (λacc=>(acc,()))
  (fun k hk=>by
   have hlen:=rZ (M.take k) (λx=>if decide (x.2.2=0)=true then[x]else[]) (λx=>by show(if _ then[x]else[]).length<=1;split<;>simp)
   rw[aw7]at hlen;generalize(M.take k).flatMap (λx=>if decide (x.2.2=0)=true then[x]else[])=acc at hlen⊢
   simp only[EX,dY (show(k:Int)<M.length by omega),cond_true,aI hk]
   by_cases c:(M[k]).2.2=0
   ·simp[if_true];rw[ai (by grind)]
    simp (disch:=omega) only[K0]
   ·simp only[dN c,av7,if_false,cond_false,aS,aC (show k+1<=4611686018427387904 by omega),aw5]) (by
   simp[EX])
 unfold L4;rw[show ae EX (M,0,[],())=_ from h,at0]
 congr 1;unfold Gp;rw[KD]
def iB(y:aq):aa×aa×aa:=(y.1.1,y.1.2.1,y.2.1)
theorem apf{S:aP}{cl:aa}{cat:List kh}(hC:pA cat):((ji S cl cat).map iB).Nodup:=by
 unfold ji List.Nodup;rw[List.pairwise_map,List.pairwise_flatMap];have one:∀{s:aa} {e:bN} {y:aq},y∈gp S cl s e->y.1=e/\y.2.1=s:=λ{s e y} h=>by grind[gp]
 refine⟨λx J=>?_,(List.pairwise_map.1 hC.once).imp λ{a b} q y D z F e=>q ?_⟩
 ·rw[List.pairwise_flatMap];refine⟨λe _=>?_,(List.pairwise_map.1 (hC.all x J).once).imp λ{a b} q y D z F e=>q ?_⟩
  ·unfold gp;split
   ·grind
   ·simp
  ·rw[<-(one D).1,<-(one F).1];exact Prod.ext (congrArg (·.1) e) (congrArg (·.2.1) e)
 ·obtain⟨L,_,h1⟩:=List.mem_flatMap.1 D;obtain⟨M,_,h2⟩:=List.mem_flatMap.1 F;rw[<-(one h1).2,<-(one h2).2];exact congrArg (·.2.2) e
structure bR(A:List aq):Prop where
 dp:∀y∈A,dM y.1
 many:A.length<=360
 rows:A.Pairwise λx y=>¬cI y.1.1 x.1.1<0
 once:(A.map iB).Nodup
theorem aoM(p t:aa)(J:ak)(m:aa):
  (∃A R,bR A/\bZ R/\yS ((p,t,J),m)=some ((A.map bw,R.map aX,A,R),true))\/sE (yS ((p,t,J),m)) (λr=>r.2=false):=by
 unfold yS;rcases alK p t J with⟨S,cl,cat,N,hC,hb,hw⟩|hw
 ·rcases Xu m with⟨R,hR,h1,h2⟩|⟨c,li,Z,hc,h1,h2⟩
  ·have U:=N.ts _ (am3 hb);obtain⟨L,M,O,s1,s2⟩:=ao7 S N cl U.2.2 U.2.1 cat hC;have D:(jC S L).length<=360:=by unfold jC;rw[au1];exact O.many
   refine .inl ⟨Gp (jC S L),R,⟨λy F=>?_,?_,?_,?_⟩,hR,?_⟩
   ·have F:=(List.mem_filter.1 F).1;obtain⟨z,hz,rfl⟩:=ax1.1 F;rw[(EE S L z).1];exact O.dp z hz
   ·exact aw8 (List.length_filter_le _ _) D
   ·refine(List.pairwise_map.2 (M.sorted.imp λ{x y} q=>?_)).filter _;rw[(EE S L x).1,(EE S L y).1];intro h;rw[ZP]at q;omega
   ·have e:(jC S L).map iB=L.map iB:=by
      unfold jC;rw[aA1];exact aE3 λy _=>by obtain⟨h1,h2,_⟩:=EE S L y;unfold iB;grind
    refine List.Nodup.sublist (List.filter_sublist.map _) ?_;rw[e];exact(M.perm.map iB).nodup_iff.2 (apf hC)
   ·simp[hw,h1,h2,s1,s2,asB _ D,arR _ D]
  ·refine .inr ?_;simp (disch:=omega) only[K0,hw,h1,h2];rfl
 ·obtain⟨x,hw,Y⟩:=od hw;refine .inr ?_;rcases Xu m with⟨R,hR,h1,h2⟩|⟨c,li,Z,hc,h1,h2⟩
  ·simp only[K0,hw,h1,h2,Y];rfl
  ·simp only[K0,hw,h1,h2,Y];rfl
theorem Zp{V R α σ:Type}{f:V->Option (V⊕R)}(l:List α)(ok:α->Bool)(g:σ->α->σ)(st:Nat->σ->V)(a:σ->R)(b:R)
  (h1:∀k (h:k<l.length) s,ok l[k]=true->f (st k s)=some (.inl (st (k+1) (g s l[k]))))
  (h2:∀k (h:k<l.length) s,ok l[k]=false->f (st k s)=some (.inr b))
  (F:∀s,f (st l.length s)=some (.inr (a s))) (s:σ):ae f (st 0 s)=some (if l.all ok=true then a (l.foldl g s)else b):=by
 have:∀n k s,l.length-k=n->k<=l.length->ae f (st k s)=some (if(l.drop k).all ok=true then a ((l.drop k).foldl g s)else b):=by
  intro n
  induction n with
  |zero=>
   intro k s J hk;have e:k=l.length:=by omega
   subst e;rw[bf (F s),ay8];rfl
  |succ n L=>
   intro k s J hk;have D:k<l.length:=by omega
   rw[av6 D,ay4,aB3];rcases az9 (ok l[k])with hp|hp
   ·rw[bd (h1 k D s hp),L (k+1) _ (by omega) D,hp,az4]
   ·rw[bf (h2 k D s hp),hp,if_neg (by simp)]
 grind
theorem an9{V R α σ:Type}{f:V->Option (V⊕R)}(l:List α)(g:σ->α->σ)(st:Nat->σ->V)(a:σ->R)
  (h1:∀k (h:k<l.length) s,f (st k s)=some (.inl (st (k+1) (g s l[k]))))
  (D:∀s,f (st l.length s)=some (.inr (a s))) (s:σ):ae f (st 0 s)=some (a (l.foldl g s)):=by
 have:=Zp l (λ_=>true) g st a (a s) (by grind) (by simp) D s
 grind
theorem lC{V R:Type}{f:V->Option (V⊕R)}{v v0:V}{r:Option R}(h:ae f v=r)(e:v=v0):ae f v0=r:=e▸h
def fT(v:cN):Prop:=pC v=true/\v.2.length<=20000
theorem fT.pre{v:cN}(h:fT v):v.2=[]\/preB v.2=true:=by
 have h1:=h.1;unfold pC at h1;simp[Bool.or_eq_true]at h1;rcases h1.2 with q|q
 ·grind
 ·grind
theorem Sp{n:Int}(h:xm n=true):0<=n/\n<=999999:=by grind[xm]
theorem fT.num{v:cN}(h:fT v):(0<=v.1.1/\v.1.1<=999999)/\(0<=v.1.2.1/\v.1.2.1<=999999)/\0<=v.1.2.2/\v.1.2.2<=999999:=by have h1:=h.1;unfold pC at h1;simp[au0]at h1;exact⟨Sp h1.1.1.1,Sp h1.1.1.2,Sp h1.1.2⟩
theorem S3{s:aa}(h:cr s=true)(hs:s.length<=20000):fT (aO s):=⟨ane h,Ef hs⟩
theorem XO(v w:cN)(M:v.2=[]\/preB v.2=true)(hw:w.2=[]\/preB w.2=true)(N:v.2.length<=20000)(lw:w.2.length<=20000):tI (bO v) (bO w)=some (eL v w):=by
 have hp:∀u:cN,u.2=[]\/preB u.2=true->∀p∈(bO u).2.2.2,gD p=true:=by
  intro u hu p hp;unfold bO at hp;simp only[]at hp;by_cases e:u.2=[]
  ·grind
  ·rw[if_neg e]at hp;rcases hu with hu|hu
   ·grind
   ·exact Sf hu p hp
 have J:∀u:cN,u.2.length<=20000->(bO u).2.2.2.length<=20001:=by
  intro u hu;unfold bO;simp[];by_cases e:u.2=[]
  ·grind
  ·rw[if_neg e];have:=(mN 46 u.2).2;omega
 rw[Xe (bO v) (bO w) (hp v M) (hp w hw) (J v N) (J w lw)];unfold bO eL jj;simp only[];by_cases e:bY aK [v.1.1,v.1.2.1,v.1.2.2] [w.1.1,w.1.2.1,w.1.2.2]=0
 ·rw[if_pos e,if_pos e];by_cases D:v.2=[]
  ·rw[if_pos D,if_pos rfl];by_cases F:w.2=[]
   ·grind
   ·rw[if_neg F,if_neg (mR _ _),if_neg (by grind),if_pos D]
  ·rw[if_neg D,if_neg (mR _ _)];by_cases F:w.2=[]
   ·grind
   ·rw[if_neg F,if_neg (mR _ _)];by_cases L:v.2=w.2
    ·simp[L,Rf]
    ·grind
 ·grind
theorem R3(v:cN)(h:fT v):yz v=some true:=by
 obtain⟨⟨F,a2⟩,⟨J,L⟩,c1,c2⟩:=h.num;have i0:tp (v.1.1,v.1.2.1,v.1.2.2,0,v.1.1,v.1.2.1,v.1.2.2,v.2,())=some (.inl (v.1.1,v.1.2.1,v.1.2.2,1,v.1.1,v.1.2.1,v.1.2.2,v.2,())):=by simp (disch:=omega) only[K0,tp];rfl
 have i1:tp (v.1.1,v.1.2.1,v.1.2.2,1,v.1.1,v.1.2.1,v.1.2.2,v.2,())=some (.inl (v.1.1,v.1.2.1,v.1.2.2,2,v.1.1,v.1.2.1,v.1.2.2,v.2,())):=by simp (disch:=omega) only[K0,tp];rfl
 have i2:tp (v.1.1,v.1.2.1,v.1.2.2,2,v.1.1,v.1.2.1,v.1.2.2,v.2,())=some (.inl (v.1.1,v.1.2.1,v.1.2.2,3,v.1.1,v.1.2.1,v.1.2.2,v.2,())):=by simp (disch:=omega) only[K0,tp];rfl
 have i3:tp (v.1.1,v.1.2.1,v.1.2.2,3,v.1.1,v.1.2.1,v.1.2.2,v.2,())=some (.inr (.inl (v.1.1,v.1.2.1,v.1.2.2,v.2,()))):=by rfl
 unfold yz;rw[bd i0,bd i1,bd i2,bf i3];simp only[at0];rcases h.pre with e|e
 ·grind
 ·have D:¬v.2=[]:=λg=>by rw[g]at e;exact absurd e (by decide)
  rw[dN D,Xc _ h.2,e];rfl
theorem zA:∀(k n:Nat),n<10^(k+1)->(b9 n).length<=k+1:=by
 intro k
 induction k with
 |zero=>grind[b9]
 |succ k D=>grind[b9]
theorem Be{n:Nat}(h:n<=100000){R:Type}{q:Option R}:J (n<=9223372036854775807) q=q:=ai (by omega)
theorem Tm{n:Int}(h:0<=n/\n<=9223372036854775807):strconv_Itoa n=some (b9 n.toNat):=if_pos h
theorem aqM(v:cN)(h:fT v):IU v=some (kR v):=by
 have hc:=R3 v h;obtain⟨⟨F,a2⟩,⟨J,L⟩,c1,c2⟩:=h.num;have M:=zA 5 v.1.1.toNat (by omega)
 have N:=zA 5 v.1.2.1.toNat (by omega)
 have O:=zA 5 v.1.2.2.toNat (by omega)
 have U:=h.2;unfold IU kR;rw[hc,if_pos h.1,at0,av2,Tm (by omega),at0]
 have Y:gB.length=1:=rfl;have Z:oj.length=1:=rfl;rw[Be (by omega),Tm (by omega),at0,Be (by grind),Be (by grind),Tm (by omega),at0,Be (by grind)]
 by_cases e:v.2=[]
 ·simp only[e];simp [gB]
 ·rw[dN e,aw3,Be (by omega),Be (by grind)]
  have:v.2.isEmpty=false:=by cases D:v.2 with|nil=>exact absurd D e|cons _ _=>rfl
  rw[this];simp [gB,oj]
def sq(c:cY):Prop:=(c=(8,(0,0,0),[]))\/(0<=c.1/\c.1<8/\fT c.2)
theorem sq.cD{c:cY}(h:sq c):fT c.2:=by
 rcases h with h|h
 ·rw[h];exact⟨by decide,au2 _⟩
 ·grind
theorem aqj{s:aa}(h:eW s=true)(hs:s.length<=20000):sq (j4 s):=by
 unfold j4;by_cases e:s=[42]
 ·rw[if_pos e];exact .inl rfl
 ·rw[if_neg e];unfold eW at h;rw[dN e]at h;cases g:mz (s.take (da s))with
  |none=>grind
  |some op=>
   rw[g]at h;obtain⟨_,h2⟩:=RF g;refine .inr ?_;have:0<=op/\op<8:=by unfold ops at h2;simp only[aw2,az1,or_false]at h2;omega
   exact⟨this.1,this.2,S3 h (by grind)⟩
theorem alE{s:aa}(h:eW s=true):fR (j4 s)=s:=by
 unfold j4;by_cases e:s=[42]
 ·rw[e];rfl
 ·rw[if_neg e];unfold eW at h;rw[dN e]at h;cases g:mz (s.take (da s))with
  |none=>grind
  |some op=>
   rw[g]at h;obtain⟨h1,h2⟩:=RF g;have:¬op=8:=by unfold ops at h2;simp only[aw2,az1,or_false]at h2;omega
   unfold fR;simp only[];rw[if_neg this,<-h1,KY h,ax4]
theorem ary(c:cY)(h:sq c):JP c=some true:=by
 unfold JP;rcases h with h|⟨h1,h2,D⟩
 ·grind
 ·rw[dN (show¬c.1=8 by omega),dY h1,dY h2,R3 c.2 D];rfl
theorem UJ{p:aa}(h:nu p=true):dj 44 ((mB p).map fR)=p/\1<=(mB p).length/\(mB p).length<=4:=by
 unfold nu at h;rw[au0,decide_eq_true_eq,ax0]at h;unfold mB;refine⟨?_,?_,by rw[au1];exact h.1⟩
 ·rw[aA1]
  have:(aw 44 p).map (fR ∘j4)=aw 44 p:=by
   conv=>rhs;rw[<-List.map_id (aw 44 p)]
   exact aE3 λx D=>alE (h.2 x D)
  rw[this,zc]
 ·rw[au1];exact ay5.2 (mR _ _)
structure Mp(r:List (List cY)):Prop where
 one:1<=r.length/\r.length<=4
 alts:∀a∈r,1<=a.length/\a.length<=4/\∀c∈a,sq c
 text:(dj 124 (r.map λa=>dj 44 (a.map fR))).length<=80
theorem Zc{s:aa}(h:jB s=true):Mp (kH s):=by
 unfold jB at h;rw[au0,au0,decide_eq_true_eq,decide_eq_true_eq,ax0]at h;obtain⟨⟨h1,h2⟩,D⟩:=h;unfold kH;refine⟨⟨by rw[au1];exact ay5.2 (mR _ _),by rw[au1];exact h2⟩,?_,?_⟩
 ·intro a L;obtain⟨p,hp,rfl⟩:=ax1.1 L;refine⟨(UJ (D p hp)).2.1,(UJ (D p hp)).2.2,?_⟩;intro c hc;unfold mB at hc;obtain⟨q,J,rfl⟩:=ax1.1 hc;have F:=D p hp;unfold nu at F;rw[au0,ax0]at F;refine aqj (F.2 q J) ?_;have N:=(mN 124 s).1 p hp;have O:=(mN 44 p).1 q J;omega
 ·rw[aA1]
  have:(aw 124 s).map ((λa=>dj 44 (a.map fR))∘mB)=aw 124 s:=by
   conv=>rhs;rw[<-List.map_id (aw 124 s)]
   exact aE3 λx M=>(UJ (D x M)).1
  simp_all[zc]
theorem amf(r:List (List cY))(h:Mp r):Ju r=some true:=by
 have h1:=h.one
 have O:∀a J (L M) F,a∈r->
   ae Jf (J,L,M,a,a.length,0,F,())=some (.inl (J,L,M,F,())):=by
  intro a J L M F D;obtain⟨N,a2,a3⟩:=h.alts a D;rw[lC (lz a (λ_=>true) (λk=>(J,L,M,a,(a.length:Int),(k:Int),F,())) (.inl (J,L,M,F,())) (.inr ()) ?_ ?_ ?_) ?st]
  case st=>rfl
  ·grind
  ·intro k hk _;simp (disch:=omega) only[K0,Jf,ary _ (a3 _ (at2 hk))]
  ·grind
  ·simp[Jf]
 unfold Ju;simp (disch:=omega) only[K0]
 have hw:yL r=some (dj 124 (r.map λa=>dj 44 (a.map fR))):=by
  unfold yL;rw[if_pos];refine⟨by omega,λa D=>?_,λa D c hc=>?_⟩
  ·have:=(h.alts a D).2.1;omega
  ·rcases(h.alts a D).2.2 c hc with e|e
   ·grind
   ·exact .inr e.2.2
 rw[lC (lz r (λ_=>true) (λk=>(r,(r.length:Int),(k:Int),r,())) (.inl (r,())) (.inr ()) ?_ ?_ ?_) ?st]
 case st=>rfl
 ·rw[if_pos (ax0.2 λ_ _=>rfl)];simp only[at0,hw];rw[dY (by have:=h.text;omega)]
 ·intro k hk _;obtain⟨N,a2,a3⟩:=h.alts _ (at2 hk);simp (disch:=omega) only[K0,P5,O _ r r.length k r (at2 hk)]
 ·grind
 ·simp[P5]
def oA(c:cY):cN:=if c.1=6 then((c.2.1.1,c.2.1.2.1+1,0),[])else if 0<c.2.1.1 then((c.2.1.1+1,0,0),[])else if 0<c.2.1.2.1 then((c.2.1.1,c.2.1.2.1+1,0),[])else((c.2.1.1,c.2.1.2.1,c.2.1.2.2+1),[])
theorem Mk(c:cY):(oA c).2=[]:=by grind[oA]
theorem aso(c:cY)(h:fT c.2):JZ c=some (oA c):=by
 obtain⟨⟨O,a2⟩,⟨U,Y⟩,c1,c2⟩:=h.num;have M:mK c.2 0=some ((c.2.1.1+1,0,0),[]):=by unfold mK;rw[if_pos rfl,if_pos (by omega)]
 have L:mK c.2 1=some ((c.2.1.1,c.2.1.2.1+1,0),[]):=by unfold mK;rw[if_neg (by decide),if_pos rfl,if_pos (by omega)]
 have N:mK c.2 2=some ((c.2.1.1,c.2.1.2.1,c.2.1.2.2+1),[]):=by unfold mK;rw[if_neg (by decide),if_neg (by decide),if_pos rfl,if_pos (by omega)]
 unfold JZ oA;by_cases J:c.1=6
 ·rw[dY J,cond_true,if_pos J,L];rfl
 ·rw[dN J,cond_false,if_neg J];by_cases D:0<c.2.1.1
  ·rw[dY D,cond_true,if_pos D,M];rfl
  ·rw[dN D,cond_false,if_neg D];by_cases F:0<c.2.1.2.1
   ·rw[dY F,cond_true,if_pos F,L];rfl
   ·rw[dN F,cond_false,if_neg F,N];rfl
theorem arC(c:cY)(h:fT c.2)(D:c.1=6\/c.1=7):L7 c.1 (bO c.2)=some (bO (oA c)):=by
 obtain⟨⟨J,a2⟩,⟨L,M⟩,c1,c2⟩:=h.num;have F:bO (oA c)=((oA c).1.1,(oA c).1.2.1,(oA c).1.2.2,[]):=by unfold bO;rw[if_pos (Mk c)]
 rw[F];unfold L7 bO;simp only[];rcases D with e|e
 ·simp (disch:=omega) only[K0,oA]
 ·simp only[K0];simp[oA];by_cases N:0<c.2.1.1
  ·simp (disch:=omega) only[K0]
  ·simp (disch:=omega) only[K0];by_cases O:0<c.2.1.2.1
   ·grind
   ·grind
def qF(c:cY)(v:cN):Bool:=
 if c.1=0 then decide (eL v c.2=0)else if c.1=1 then !decide (eL v c.2=0)else if c.1=2 then decide (eL v c.2<0)else if c.1=3 then decide (eL v c.2<=0)
 else if c.1=4 then decide (0<eL v c.2)else if c.1=5 then decide (0<=eL v c.2)else if c.1=8 then true else if 0<=eL v c.2 then decide (eL v (oA c)<0)else false
theorem aaI(c:cY)(hc:sq c)(v:cN)(U:fT v):JE c v=some (qF c v):=by
 unfold JE qF;rw[Je v c.2 U.2 hc.cD.2,at0];by_cases F:c.1=0
 ·grind
 rw[dN F,if_neg F];by_cases J:c.1=1
 ·grind
 rw[dN J,if_neg J];by_cases L:c.1=2
 ·grind
 rw[dN L,if_neg L];by_cases Y:c.1=3
 ·grind
 simp (disch:=omega) only[K0];by_cases M:c.1=4
 ·grind
 rw[dN M,cond_false,if_neg M];by_cases N:c.1=5
 ·grind
 rw[dN N,cond_false,if_neg N];by_cases O:c.1=8
 ·grind
 rw[dN O,cond_false,if_neg O];by_cases D:0<=eL v c.2
 ·rw[dY D,if_pos D,aso c hc.cD];simp[at0];rw[Je v _ U.2 (by rw[Mk];exact au2 _)];rfl
 ·rw[dN D,cond_false,if_neg D]
theorem aoj(c:cY)(hc:sq c)(v:cN)(D:fT v):Lb (fK c) (bO v)=some (qF c v):=by
 unfold Lb qF fK;simp only[];rw[XO v c.2 D.pre hc.cD.pre D.2 hc.cD.2,at0];by_cases F:c.1=0
 ·grind
 rw[dN F,if_neg F];by_cases J:c.1=1
 ·grind
 rw[dN J,if_neg J];by_cases L:c.1=2
 ·grind
 rw[dN L,if_neg L];by_cases Z:c.1=3
 ·grind
 simp only[K0];by_cases M:c.1=4
 ·grind
 rw[dN M,if_neg M];by_cases N:c.1=5
 ·grind
 rw[dN N,if_neg N];by_cases O:c.1=8
 ·grind
 simp (disch:=omega) only[K0];by_cases U:0<=eL v c.2
 ·have Y:c.1=6\/c.1=7:=by
    rcases hc with hc|hc
    ·rw[hc]at O;exact absurd rfl O
    ·omega
  rw[dY U,if_pos U,arC c hc.cD Y];simp[at0];rw[XO v _ D.pre (.inl (Mk c)) D.2 (by rw[Mk];exact au2 _)];rfl
 ·simp (disch:=omega) only[K0]
def acX(a b:cN):Bool:=decide (a.1.1=b.1.1)&&(decide (a.1.2.1=b.1.2.1)&&decide (a.1.2.2=b.1.2.2))
def AB(v:cN)(c:cY):Bool:= !decide (c.2.2=[])&&acX c.2 v
def oC(v:cN)(a:List cY):Bool:=a.all (λc=>qF c v)&&(decide (v.2=[])||a.any (AB v))
def tc(r:List (List cY))(v:cN):Bool:=r.any (oC v)
theorem aaR{α:Type}(q:α->Bool):∀(l:List α) (b:Bool),l.foldl (λn c=>n||q c) b=(b||l.any q)
 |[],b=>(Bool.or_false b).symm
 |x::t,b=>by rw[aB3,aaR q t,aD7,Bool.or_assoc]
theorem ZE{α:Type}(p q:α->Bool):∀(l:List α) (a b:Bool),l.foldl (λn c=>(n.1&&p c,n.2||q c)) (a,b)=(a&&l.all p,b||l.any q)
 |[],a,b=>by simp only[K0,List.all_nil,List.any_nil];rfl
 |x::t,a,b=>by rw[aB3,ZE p q t,aD7,ay4,Bool.or_assoc,aF9]
theorem abQ(a:List cY)(L:a.length<=1000)(hc:∀c∈a,sq c)(v:cN)(F:fT v):Lw a v=some (oC v a):=by
 unfold Lw;rw[lC (Zp a (λc=>qF c v) (λn c=>n||AB v c) (λk n=>(n,a,(a.length:Int),(k:Int),v.1.1,v.1.2.1,v.1.2.2,v.2,())) (λn=>.inl (n,())) (.inr ()) ?_ ?_ ?_ (decide (v.2=[]))) ?st]
 case st=>rfl
 ·rw[aaR];unfold oC;rcases az9 (a.all λc=>qF c v)with e|e
  ·grind
  ·grind
 ·intro k hk n hp;have D:=aaI a[k] (hc _ (at2 hk)) v F;rw[hp]at D;have J:((v.1.1,v.1.2.1,v.1.2.2),v.2)=v:=rfl;simp (disch:=omega) only[K0,KJ,D];cases n with
  |true=>rfl
  |false=>
   simp only[K0];unfold AB;by_cases e:(a[k]).2.2=[]
   ·grind
   ·rw[dN e];rfl
 ·intro k hk n hp;have D:=aaI a[k] (hc _ (at2 hk)) v F;rw[hp]at D;have J:((v.1.1,v.1.2.1,v.1.2.2),v.2)=v:=rfl;simp (disch:=omega) only[K0,KJ,D]
 ·simp[KJ]
theorem aor(r:List (List cY))(F:Mp r)(v:cN)(J:fT v):JN r v=some (tc r v):=by
 unfold JN;rw[amf r F];simp only[R3 v J];have h1:=F.one;have M:((v.1.1,v.1.2.1,v.1.2.2),v.2)=v:=rfl;rw[lC (lz r (λa=> !oC v a) (λk=>(r,(r.length:Int),(k:Int),v.1.1,v.1.2.1,v.1.2.2,v.2,())) (.inl ()) (.inr ()) ?_ ?_ ?_) ?st]
 case st=>rfl
 ·unfold tc;have e:(r.all λa=> !oC v a)= !r.any (oC v):=by rw[List.all_eq_not_any_not];simp[Bool.not_not]
  grind
 ·intro k hk hp;obtain⟨L,a2,a3⟩:=F.alts _ (at2 hk);have D:=abQ r[k] (by omega) a3 v J
  rw[ay6]at hp;rw[hp]at D;simp (disch:=omega) only[K0,Jt,D]
 ·intro k hk hp;obtain⟨L,a2,a3⟩:=F.alts _ (at2 hk);have D:=abQ r[k] (by omega) a3 v J
  rw[Bool.not_eq_false']at hp;rw[hp]at D;simp (disch:=omega) only[K0,Jt,D]
 ·simp[Jt]
theorem aqL(c:cY)(i:Decidable (0<(((fK c).2.2.2.2.length:Nat):Int))): @decide (0<(((fK c).2.2.2.2.length:Nat):Int)) i= !decide (c.2.2=[]):=by
 have:(fK c).2.2.2.2=if c.2.2=[]then[]else aw 46 c.2.2:=rfl
 by_cases e:c.2.2=[]
 ·grind
 ·have h:=ay5.2 (mR 46 c.2.2);grind
theorem ap2(r:List (List adp))(j:Nat)(F:j<r.length)(a:List cY)(D:r[j]=a.map fK)(hl:a.length<=1000)(hc:∀c∈a,sq c)(v:cN)(N:fT v)(b:Bool):
  ae E4 (r,(j:Int),true,b,0,(bO v).1,(bO v).2.1,(bO v).2.2.1,(bO v).2.2.2,())=some (r,(j:Int),a.all (λc=>qF c v),b||a.any (AB v),(bO v).1,(bO v).2.1,(bO v).2.2.1,(bO v).2.2.2,()):=by
 have U:((bO v).1,(bO v).2.1,(bO v).2.2.1,(bO v).2.2.2)=bO v:=rfl;have main:=an9 (f:=E4) a (λ(n) c=>(n.1&&qF c v,n.2||AB v c)) (λk n=>(r,j,n.1,n.2,k,(bO v).1,(bO v).2.1,(bO v).2.2.1,(bO v).2.2.2,())) (λn=>(r,j,n.1,n.2,(bO v).1,(bO v).2.1,(bO v).2.2.1,(bO v).2.2.2,())) ?_ ?_ (true,b)
 ·exact main.trans (by rw[ZE,az4])
 ·intro k hk n;obtain⟨n1,n2⟩:=n;have M:k<(a.map fK).length:=by rw[au1];exact hk
  have L:(a.map fK)[k]=fK a[k]:=ax8 _;have hh:=aoj a[k] (hc _ (at2 hk)) v N;have i1:(fK a[k]).2.1=(a[k]).2.1.1:=rfl;have i2:(fK a[k]).2.2.1=(a[k]).2.1.2.1:=rfl;have i3:(fK a[k]).2.2.2.1=(a[k]).2.1.2.2:=rfl;have O:(bO v).1=v.1.1:=rfl;have j2:(bO v).2.1=v.1.2.1:=rfl;have j3:(bO v).2.2.1=v.1.2.2:=rfl;have Y:=aS k;have Z:∀{R:Type} (q:Option R),J (ab .i64 (k+1:Nat)) q=q:=λq=>aC (by omega)
  simp only[E4,aI F,D,aI M,L,aqL];unfold AB acX;rw[O];by_cases p0:(a[k]).2.2=[]
  ·grind
  ·grind
 ·intro n;simp only[E4,aI F,D,au1,av8,decide_false,cond_false]
theorem amI(r:List (List cY))(D:Mp r)(v:cN)(M:fT v):L6 (r.map λa=>a.map fK) (bO v)=some (tc r v):=by
 unfold L6;have h1:=D.one
 have F:decide ((((bO v).2.2.2).length:Int)=0)=decide (v.2=[]):=by
  have:(bO v).2.2.2=if v.2=[]then[]else aw 46 v.2:=rfl
  by_cases e:v.2=[]
  ·grind
  ·have h:=ay5.2 (mR 46 v.2);rw[dN e,dN (by grind)]
 have step:∀k (hk:k<r.length),Lc ((r.map λa=>a.map fK),k,(bO v).1,(bO v).2.1,(bO v).2.2.1,(bO v).2.2.2,())=if oC v r[k]=true then some (.inr (.inr ()))else some (.inl ((r.map λa=>a.map fK),((k+1):Int),(bO v).1,(bO v).2.1,(bO v).2.2.1,(bO v).2.2.2,())):=by
  intro k hk;obtain⟨N,a2,a3⟩:=D.alts _ (at2 hk);have L:k<(r.map λa=>a.map fK).length:=by rw[au1];omega
  have J:=ap2 (r.map λa=>a.map fK) k L r[k] (ax8 _) (by omega) a3 v M (decide (v.2=[]))
  simp (disch:=omega) only[K0,Lc,F,J];unfold oC;rcases az9 ((r[k]).all λc=>qF c v)with e|e
  ·grind
  ·rw[e];rfl
 rw[lC (lz r (λa=> !oC v a) (λk=>((r.map λa=>a.map fK),(k:Int),(bO v).1,(bO v).2.1,(bO v).2.2.1,(bO v).2.2.2,())) (.inl ()) (.inr ()) ?_ ?_ ?_) ?st]
 case st=>rfl
 ·unfold tc;have e:(r.all λa=> !oC v a)= !r.any (oC v):=by rw[List.all_eq_not_any_not];simp[Bool.not_not]
  rw[e];rcases az9 (r.any (oC v))with g|g
  ·rw[g];rfl
  ·rw[g];rfl
 ·grind
 ·grind
 ·simp[Lc]
section
variable {α:Type}
theorem SG{o l:List α}{j:Nat}(h:o.drop j=l.drop j)(D:j<l.length):o[j]? =some l[j]:=by
 have e:(o.drop j)[0]? =(l.drop j)[0]? :=by rw[h]
 grind
theorem Fb{o l:List α}{j:Nat}(h:o.drop j=l.drop j):o.drop (j+1)=l.drop (j+1):=by rw[<-List.tail_drop,h,List.tail_drop]
theorem aa1{o l:List α}{i j:Nat}{x:α}(h:o.drop j=l.drop j)(D:i<j):(o.set i x).drop j=l.drop j:=by rw[List.drop_set_of_lt D,h]
theorem Z6{o:List α}{i:Nat}{x:α}(D:i<o.length):(o.set i x).take (i+1)=o.take i++[x]:=by rw[az5 (by grind),List.getElem_set_self,List.take_set_of_le (at9 _)]
theorem aa5(o:List α)(k:Nat)(z:α)(hk:k<=o.length):(o.take k++av5 (o.length-k) z).take k=o.take k:=by grind
theorem ab2(o:List α)(k:Nat)(z:α)(hk:k<=o.length):(o.take k++av5 (o.length-k) z).length=o.length:=by grind
end
theorem aqf{V R α:Type}{f:V->Option (V⊕R)}(l:List α)(g:α->Bool)(st:Nat->Nat->List α->V)(out:Nat->List α->R)
  (h1:∀i j o,i<j->(O:j<l.length)->o.length=l.length->o[j]? =some l[j]->f (st i j o)=some (.inl (if g l[j]=true then st i (j+1) o else st (i+1) (j+1) (o.set i l[j]))))
  (h2:∀i o,o.length=l.length->f (st i l.length o)=some (.inr (out i o))):
  ∀n i j o,l.length-j=n->i<j->j<=l.length->o.length=l.length->o.drop j=l.drop j->o.take i=(l.take j).filter (λx=> !g x)->
   ∃N o',ae f (st i j o)=some (out N o')/\o'.length=l.length/\N<l.length/\o'.take N=l.filter (λx=> !g x):=by
 intro n
 induction n with
 |zero=>
  intro i j o Z L O D J F;obtain rfl:j=l.length:=by omega
  rw[ax6]at F;exact⟨i,o,bf (h2 i o D),D,L,F⟩
 |succ n Y=>
  intro i j o Z L O D J F;have M:j<l.length:=by omega
  have hf:=h1 i j o L M D (SG J M);have U:l.take (j+1)=l.take j++[l[j]]:=az5 M;by_cases e:g l[j]=true
  ·rw[if_pos e]at hf;rw[bd hf];exact Y i (j+1) o (by omega) (by omega) (by omega) D (Fb J) (by rw[U,aH5,F];simp [e])
  ·rw[if_neg e]at hf;rw[bd hf];exact Y (i+1) (j+1) _ (by omega) (by omega) (by omega) (by grind) (aa1 (Fb J) (by omega)) (by rw[Z6 (by omega),U,aH5,F];simp [e])
theorem apX{V α:Type}{f:V->Option (V⊕(Unit⊕Int×Unit))}(l:List α)(g:α->Bool)(st:Nat->V)
  (h1:∀j,(J:j<l.length)->f (st j)=some (if g l[j]=true then .inr (.inr ((j:Int),()))else .inl (st (j+1))))
  (h2:f (st l.length)=some (.inr (.inl ()))):∀n j,l.length-j=n->j<=l.length->(l.take j).filter (λx=> !g x)=l.take j->
   (ae f (st j)=some (.inl ())/\l.filter (λx=> !g x)=l)\/∃k,∃h:k<l.length,ae f (st j)=some (.inr ((k:Int),()))/\g l[k]=true/\(l.take k).filter (λx=> !g x)=l.take k:=by
 intro n
 induction n with
 |zero=>
  intro j L J D;obtain rfl:j=l.length:=by omega
  rw[ax6]at D;exact .inl ⟨bf h2,D⟩
 |succ n M=>
  intro j L J D;have F:j<l.length:=by omega
  have hf:=h1 j F;by_cases e:g l[j]=true
  ·rw[if_pos e]at hf;exact .inr ⟨j,F,bf hf,e,D⟩
  ·rw[if_neg e]at hf;rw[bd hf];exact M (j+1) (by omega) (by omega) (by rw[az5 F,aH5,D];simp [e])
theorem abO{V α:Type}{f:V->Option (V⊕(Unit⊕Int×Unit))}(l:List α)(g:α->Bool)(st:Int->V)
 (h1:∀j:Nat,(D:j<l.length)->f (st j)=some (if g l[j]=true then .inr (.inr ((j:Int),()))else .inl (st ((j+1:Nat):Int))))
 (h2:f (st (l.length:Int))=some (.inr (.inl ()))):
 (ae f (st 0)=some (.inl ())/\l.filter (λx=> !g x)=l)\/∃k:Nat,∃h:k<l.length,ae f (st 0)=some (.inr ((k:Int),()))/\g l[k]=true/\(l.take k).filter (λx=> !g x)=l.take k:=apX l g (λj=>st j) h1 h2 _ 0 rfl (au2 _) rfl
theorem ab1{V:Type}{f:V->Option (V⊕(Int×List Int×Unit))}(l:List Int)(hl:l.length<1000000000)(g:Int->Bool)(st:Int->Int->List Int->V)
  (h1:∀(i j:Nat) o,i<j->(hj:j<l.length)->o.length=l.length->o[j]? =some l[j]->f (st i j o)=some (.inl (if g l[j]=true then st i ((j+1:Nat):Int) o else st ((i+1:Nat):Int) ((j+1:Nat):Int) (o.set i l[j]))))
  (h2:∀(i:Nat) o,o.length=l.length->f (st i l.length o)=some (.inr ((i:Int),o,()))) (k:Nat) (hk:k<l.length) (O:g l[k]=true) (U:(l.take k).filter (λx=> !g x)=l.take k):
  (J (ab .i64 ((k:Int)+1))<|(ae f (st k ((k:Int)+1) l)).bind λ(D,F,_)=>
   J (0<=D/\D<=(F.length:Int)/\0<F.length)<|J True<|
   J (0<=D/\D<=((F.take D.toNat++av5 (F.length-D.toNat) 0).length:Int)/\0<(F.take D.toNat++av5 (F.length-D.toNat) 0).length)<|
   some ((F.take D.toNat++av5 (F.length-D.toNat) 0).take D.toNat))=some (l.filter λx=> !g x):=by
 obtain⟨L,o',e,Y,Z,N⟩:=aqf l g (λi j o=>st i j o) (λi o=>((i:Int),o,())) h1 h2 _ k (k+1) l rfl (by simp) (by omega) rfl rfl (by rw[az5 hk,aH5,U];simp [O])
 have e:ae f (st k (k+1) l)=some ((L:Int),o',()):=e;have M:∀{R:Type} (q:Option R),J (0<=(L:Int)/\(L:Int)<=o'.length/\0<o'.length) q=q:=λq=>ai ⟨by omega,by omega,by omega⟩
 have c:∀{R:Type} (q:Option R),J (ab .i64 (k+1)) q=q:=λq=>aC (n:=k+1) (by omega)
 rw[c,e];simp only[at0,av0,M,ab2 o' L _ (by omega),aa5 o' L _ (by omega),ai trivial]
 rw[N]
theorem Qw:∀(l:List Want) (x y:Want),di (l++[x,y])=if y=x then di (l++[x])else di (l++[x])++[y]
 |[],x,y=>by
  show(if x=y then di [y]else x::di [y])=_
  by_cases e:y=x
  ·grind
  ·rw[if_neg e,if_neg (λh=>e h.symm)];rfl
 |[a],x,y=>by
  have D:=Qw [] x y;show(if a=x then di [x,y]else a::di [x,y])=if y=x then(if a=x then di [x]else a::di [x])else(if a=x then di [x]else a::di [x])++[y]
  grind
 |a::b::t,x,y=>by
  have D:=Qw (b::t) x y;show(if a=b then di (b::(t++[x,y]))else a::di (b::(t++[x,y])))=if y=x then(if a=b then di (b::(t++[x]))else a::di (b::(t++[x])))else(if a=b then di (b::(t++[x]))else a::di (b::(t++[x])))++[y]
  grind
theorem Xy{l:List Want}{j:Nat}(D:j+1<l.length):di (l.take (j+2))=if l[j+1]=l[j]then di (l.take (j+1))else di (l.take (j+1))++[l[j+1]]:=by
 rw[az5 D,az5 (by omega),aw9]
 exact Qw _ _ _
theorem Lq(a b:Want):(decide (a.1=b.1)&&decide (a.2=b.2))=decide (a=b):=by grind
theorem ajW(l:List Want)(hl:l.length<1000000)(s:Nat):∀n q k o,l.length-(s+q)=n->1<=q->s+q<=l.length->k+1<=s+q->o.length=l.length->o.drop (s+q-1)=l.drop (s+q-1)->o.take k=di (l.take (s+q))->
  ∃(N:Nat) (o':List Want),ae tq ((k:Int),s,(q:Int),o,())=some ((N:Int),o',())/\o'.length=l.length/\N<l.length/\o'.take N=di l:=by
 intro n
 induction n with
 |zero=>
  intro q k o hn hq hj hk L D F;have e:s+q=l.length:=by omega
  rw[e,ax6]at F;refine⟨k,o,bf ?_,L,by omega,F⟩
  simp only[tq,dN (show¬(q:Int)<((o.length-s:Nat):Int) by omega),cond_false]
 |succ n ih=>
  intro q k o hn hq hj hk L D F;obtain⟨p,rfl⟩:∃p,q=p+1:=⟨q-1,by omega⟩
  have ah:s+p+1<l.length:=by omega
  have D:o.drop (s+p)=l.drop (s+p):=D;have g1:o[s+(p+1)]? =some l[s+p+1]:=SG (j:=s+p+1) (Fb D) ah;have g0:o[s+p]? =some l[s+p]:=SG D (by omega)
  have M:∃z,o[k]? =some z:=⟨o[k]'(by omega),au4 (by omega)⟩
  obtain⟨z,M⟩:=M;have Z:=Xy ah;have Y:(((p+1:Nat):Int)-1)=(p:Nat):=by omega
  have c1:∀{R:Type} (q:Option R),J (0<=((p+1:Nat):Int)/\((p+1:Nat):Int)<((o.length-s:Nat):Int)) q=q:=λq=>ai ⟨by omega,by omega⟩
  have c2:∀{R:Type} (q:Option R),J (0<=((p:Nat):Int)/\((p:Nat):Int)<((o.length-s:Nat):Int)) q=q:=λq=>ai ⟨by omega,by omega⟩
  have c3:∀{R:Type} (q:Option R),J (0<=((k:Nat):Int)/\((k:Nat):Int)<(o.length:Int)) q=q:=λq=>ai ⟨by omega,by omega⟩
  have O:∀{R:Type} (q:Option R),J (ab .i64 ((p:Nat):Int)) q=q:=λq=>aC (by omega)
  have c5:∀{R:Type} (q:Option R),J (ab .i64 ((k:Int)+1)) q=q:=λq=>aC (n:=k+1) (by omega)
  have U:∀{R:Type} (q:Option R),J (ab .i64 (((p+1:Nat):Int)+1)) q=q:=λq=>aC (n:=p+1+1) (by omega)
  by_cases e:l[s+p+1]=l[s+p]
  ·have hf:tq ((k:Int),s,((p+1:Nat):Int),o,())=some (.inl ((k:Int),s,((p+2:Nat):Int),o,())):=by
     simp only[tq,dY (show((p+1:Nat):Int)<((o.length-s:Nat):Int) by omega),cond_true,c1,av0,g1,at0,Y,O,c2,g0,Lq,e,decide_true,av2,cond_false,U]
     rfl
   rw[bd hf];exact ih (p+2) k o (by omega) (by omega) (by omega) (by omega) L (Fb D) (by rw[F];show di (l.take (s+p+1))=di (l.take (s+p+2));rw[Z,if_pos e])
  ·have hf:tq ((k:Int),s,((p+1:Nat):Int),o,())=some (.inl (((k+1:Nat):Int),s,((p+2:Nat):Int),o.set k l[s+p+1],())):=by
      simp only[tq,dY (show((p+1:Nat):Int)<((o.length-s:Nat):Int) by omega),cond_true,c1,av0,g1,at0,Y,O,c2,g0,Lq,dN e,aw3,c3,M,c5,U]
      rfl
   rw[bd hf]
   exact ih (p+2) (k+1) _ (by omega) (by omega) (by omega) (by omega) (by rw[aA9];exact L) (aa1 (Fb D) (by omega)) (by
    rw[Z6 (by omega),F]
    show di (l.take (s+p+1))++_=di (l.take (s+p+2));rw[Z,if_neg e])
theorem ajV(l:List Want)(hl:l.length<1000000):∀n j,l.length-(j+1)=n->j+1<=l.length->di (l.take (j+1))=l.take (j+1)->
  ae vG (((j+1:Nat):Int),l,())=some (.inl (di l,()))\/ae vG (((j+1:Nat):Int),l,())=some (.inr (di l,())):=by
 intro n
 induction n with
 |zero=>
  intro j hn hj D;have e:j+1=l.length:=by omega
  rw[e,ax6]at D;refine .inl (bf ?_);simp only[vG,dN (show¬(((j+1:Nat):Int)<(l.length:Int)) by omega),cond_false,D]
 |succ n ih=>
  intro j hn hj D;have M:j+1<l.length:=by omega
  have L:=Xy M;have g1:l[j+1]? =some l[j+1]:=au4 M;have g0:l[j]? =some l[j]:=au4 (by omega)
  have O:(((j+1:Nat):Int)-1)=(j:Nat):=by omega
  have c1:∀{R:Type} (q:Option R),J (0<=((j+1:Nat):Int)/\((j+1:Nat):Int)<(l.length:Int)) q=q:=λq=>ai ⟨by omega,by omega⟩
  have c2:∀{R:Type} (q:Option R),J (0<=((j:Nat):Int)/\((j:Nat):Int)<(l.length:Int)) q=q:=λq=>ai ⟨by omega,by omega⟩
  have Y:∀{R:Type} (q:Option R),J (0<=((j+1:Nat):Int)/\((j+1:Nat):Int)<=(l.length:Int)/\0<l.length) q=q:=λq=>ai ⟨by omega,by omega,by omega⟩
  have N:∀{R:Type} (q:Option R),J (ab .i64 ((j:Nat):Int)) q=q:=λq=>aC (by omega)
  have Z:∀{R:Type} (q:Option R),J (ab .i64 (((j+1:Nat):Int)+1)) q=q:=λq=>aC (n:=j+1+1) (by omega)
  by_cases e:l[j+1]=l[j]
  ·rw[if_pos e]at L;obtain⟨F,o',h1,h2,h3,h4⟩:=ajW l hl (j+1) _ 1 (j+1) l rfl (at9 _) (by omega) (by omega) rfl rfl (by rw[<-D];exact L.symm)
   refine .inr (bf ?_);have h1:ae tq (((j+1:Nat):Int),j+1,(1:Int),l,())=some ((F:Int),o',()):=h1;have U:∀{R:Type} (q:Option R),J (0<=((F:Nat):Int)/\((F:Nat):Int)<=(o'.length:Int)/\0<o'.length) q=q:=λq=>ai ⟨by omega,by omega,by omega⟩
   simp only[vG,dY (show(((j+1:Nat):Int)<(l.length:Int)) by omega),cond_true,c1,av0,g1,at0,O,N,c2,g0,Lq,e,decide_true,Y,h1,U,ab2 o' F _ (by omega),aa5 o' F _ (by omega),ai trivial]
   rw[h4]
  ·rw[if_neg e]at L
   have hf:vG (((j+1:Nat):Int),l,())=some (.inl (((j+1+1:Nat):Int),l,())):=by
    simp only[vG,dY (show(((j+1:Nat):Int)<(l.length:Int)) by omega),cond_true,c1,av0,g1,at0,O,N,c2,g0,Lq,dN e,cond_false,Z]
    rfl
   rw[bd hf];exact ih (j+1) (by omega) (by omega) (by show di (l.take (j+2))=_;rw[L,D,az5 M])
theorem amU(l:List Want)(F:l.length<1000000):CX l=some (di l):=by
 unfold CX;by_cases h:(l.length:Int)<2
 ·rw[dY h]
  match l,h with
  |[],_=>rfl
  |[x],_=>rfl
  |_::_::_,h=>grind
 ·rw[dN h]
  have D:di (l.take (0+1))=l.take (0+1):=by
   match l,h with
   |x::t,_=>rfl
   |[],h=>rfl
  have:=ajV l F _ 0 rfl (by omega) D
  grind
def aL{α β:Type}(e:Nat->α->List β):List α->Nat->List β
 |[],_=>[]
 |x::t,k=>e k x++aL e t (k+1)
theorem jA{α β:Type}{e:Nat->α->List β}{m:Nat}:∀(l:List α) (k:Nat),(∀j (h:j<l.length),(e (k+j) l[j]).length<=m)->(aL e l k).length<=m*l.length
 |[],k,_=>at9 _
 |x::t,k,h=>by
  have h0:(e k x).length<=m:=h 0 (aG4 _);have h1:=jA t (k+1) (λj D=>by have:=h (j+1) (aG5 D);rw[show k+1+j=k+(j+1) by omega];exact this)
  show(e k x++aL e t (k+1)).length<=m*(t.length+1);rw[au5,aA4];omega
theorem abd{α β:Type}{e:Nat->α->List β}{y:β}:∀(l:List α) (k:Nat),y∈aL e l k<->∃j,∃h:j<l.length,y∈e (k+j) l[j]
 |[],k=>⟨λh=>(az1 h).elim,λh=>by obtain⟨j,h,_⟩:=h;exact absurd h (Nat.not_lt_zero j)⟩
 |x::t,k=>by
  show y∈e k x++aL e t (k+1)<->_;rw[List.mem_append,abd t (k+1)];constructor
  ·rintro(h|⟨j,D,h⟩)
   ·exact⟨0,aG4 _,h⟩
   ·exact⟨j+1,aG5 D,by rw[show k+(j+1)=k+1+j by omega];exact h⟩
  ·grind
theorem dK{α β:Type}{e:Nat->α->List β}{y:β}{l:List α}:y∈aL e l 0<->∃j,∃h:j<l.length,y∈e j l[j]:=by rw[abd];simp[ax2]
theorem tT{α β γ:Type}{e:Nat->α->List β}{g:β->γ}:∀(l:List α) (k:Nat),(aL e l k).map g=aL (λj x=>(e j x).map g) l k
 |[],k=>rfl
 |x::t,k=>by show(e k x++aL e t (k+1)).map g=(e k x).map g++aL _ t (k+1);rw[aw1,tT t (k+1)]
theorem Ym{α β γ:Type}{e:Nat->γ->List β}{g:α->γ}:∀(l:List α) (k:Nat),aL e (l.map g) k=aL (λj x=>e j (g x)) l k
 |[],k=>rfl
 |x::t,k=>by show e k (g x)++aL e (t.map g) (k+1)=_;rw[Ym t (k+1)];rfl
theorem ZT{α β:Type}{e D:Nat->α->List β}:∀(l:List α) (k:Nat),(∀j (h:j<l.length),(e (k+j) l[j]).Perm (D (k+j) l[j]))->(aL e l k).Perm (aL D l k)
 |[],k,_=>.refl _
 |x::t,k,h=>by have h0:(e k x).Perm (D k x):=h 0 (aG4 _);exact h0.append (ZT t (k+1) (λj F=>by have:=h (j+1) (aG5 F);rw[show k+1+j=k+(j+1) by omega];exact this))
theorem fQ{V R α β:Type}{f:V->Option (V⊕R)}{v0:V}(l:List α)(e:Nat->α->List β)(m a0:Nat)(st:Nat->List β->V)(out:List β->R)
  (hm:∀k (h:k<l.length),(e k l[k]).length<=m)
  (h1:∀k (h:k<l.length) (acc:List β),acc.length<=a0+m*k->f (st k acc)=some (.inl (st (k+1) (acc++e k l[k]))))
  (J:∀acc:List β,f (st l.length acc)=some (.inr (out acc))) (acc:List β) (F:acc.length<=a0) (h0:st 0 acc=v0):ae f v0=some (out (acc++aL e l 0)):=by
 have:∀n k acc,l.length-k=n->k<=l.length->acc.length<=a0+m*k->ae f (st k acc)=some (out (acc++aL e (l.drop k) k)):=by
  intro n
  induction n with
  |zero=>
   intro k acc L hk F;have e:k=l.length:=by omega
   subst e;rw[bf (J acc),ay8];show _=some (out (acc++[]));grind
  |succ n M=>
   intro k acc L hk F;have D:k<l.length:=by omega
   rw[bd (h1 k D acc F),av6 D];have N:=hm k D;rw[M (k+1) _ (by omega) D (by grind)]
   show _=some (out (acc++(e k l[k]++aL e (l.drop (k+1)) (k+1))));grind
 grind
theorem RN{β:Type}(b:Bool)(x:β):(if b=true then[x]else[]).length<=1:=by grind
theorem mZ{α:Type}{acc:List α}{x:α}(D:acc.length<=999999999){R:Type}{q:Option R}:J (acc.length+([x]:List α).length<=1000000000) q=q:=ai (by grind)
theorem qY{A:List aq}{k:Nat}(h:k<A.length){R:Type}(f:uF->Option R):(ag (A.map bw) (k:Int)).bind f=f (bw A[k]):=by rw[aI (l:=A.map bw) (by grind),ax8]
def kY(A:List aq)(s:aa):List Int:=aL (λi (y:aq)=>if decide (y.1.1=s)=true then[(i:Int)]else[]) A 0
theorem of_eq(A:List aq)(hA:A.length<=360)(s:aa):EJ (A.map bw) s=some (kY A s):=by
 unfold EJ;rw[fQ A (λi y=>if decide (y.1.1=s)=true then[(i:Int)]else[]) 1 0 (λk acc=>(s,A.map bw,((A.map bw).length:Int),(k:Int),acc,())) (λacc=>(acc,())) (by grind) ?_ ?_ [] (au2 _) ?st]
 case st=>rfl
 ·rfl
 ·intro k hk acc M;have D:=aS k;have F:∀{R:Type} (q:Option R),J (ab .i64 (k+1:Nat)) q=q:=λq=>aC (by omega)
  have L:(bw A[k]).1.1=(A[k]).1.1:=rfl;simp only[QK,au1,dY (show(k)<(A.length:Int) by omega),cond_true,qY hk,L,D,F]
  by_cases e:(A[k]).1.1=s
  ·rw[dY e,cond_true,mZ (by omega),if_pos rfl]
  ·grind
 ·simp[QK]
def AO(n:av)(y:aq):Bool:=decide (y.1.1=n.1)&&tc (kH n.2.1) (aO y.1.2.1)
def eU(A:List aq)(n:av):List Int:=aL (λi (y:aq)=>if AO n y=true then[(i:Int)]else[]) A 0
theorem aaT{α:Type}{g:Int->Bool}{p q:α->Bool}:∀(l:List α) (k:Nat),(∀j (h:j<l.length),g ((k+j:Nat):Int)= !q l[j])->
  (aL (λi y=>if p y=true then[(i:Int)]else[]) l k).filter (λx=> !g x)=aL (λi y=>if(p y&&q y)=true then[(i:Int)]else[]) l k
 |[],k,_=>rfl
 |x::t,k,h=>by
  have F:=aaT (p:=p) (q:=q) t (k+1) (λj D=>by have:=h (j+1) (aG5 D);rw[show k+1+j=k+(j+1) by omega];exact this)
  have h0:=h 0 (aG4 _);show((if p x=true then[(k:Int)]else[])++aL _ t (k+1)).filter _=((if(p x&&q x)=true then[(k:Int)]else[])++aL _ t (k+1))
  grind
theorem ast{d:ep}{d1:List uF}{l:List Int}(N:l.length<1000000000)(g:Int->Bool)(F:∀i∈l,zd i d d1=some (g i)):IE d d1 l=some (l.filter λx=> !g x):=by
 unfold IE PI
 have H:=abO (f:=IC) l g (λj=>(l,d,d1,l.length,j,())) (λj D=>by
  have L:∀{R:Type} (q:Option R),J (ab .i64 (j+1)) q=q:=λq=>aC (n:=j+1) (by omega)
  have M:=F _ (at2 D);simp (disch:=omega) only[K0,IC,M];rcases az9 (g l[j])with e|e
  ·rw[e];rfl
  ·rw[e];rfl) (by simp[IC])
 rcases H with⟨e,h⟩|⟨k,hk,e,h1,h2⟩
 ·rw[e,h];rfl
 ·rw[e];simp only[dN (show¬((k:Int)= -1) by omega)]
  refine ab1 (f:=IA) l N g (λi j o=>(d,d1,i,j,o,())) (λi j o Z D O U=>?_) (λi o O=>?_) k hk h1 h2
  ·have c1:∀{R:Type} (q:Option R),J (0<=j/\j<o.length) q=q:=λq=>ai ⟨by omega,by omega⟩
   have c2:∀{R:Type} (q:Option R),J (0<=i/\i<o.length) q=q:=λq=>ai ⟨by omega,by omega⟩
   have Y:∀{R:Type} (q:Option R),J (ab .i64 (i+1)) q=q:=λq=>aC (n:=i+1) (by omega)
   have L:∀{R:Type} (q:Option R),J (ab .i64 (j+1)) q=q:=λq=>aC (n:=j+1) (by omega)
   have g1:=au4 (by omega)
   simp (disch:=omega) only[K0,IA,U,F _ (at2 D)];rcases az9 (g l[j])with e|e
   ·rw[e];rfl
   ·rw[e];rfl
  ·simp (disch:=omega) only[K0,IA]
theorem Ui(A:List aq)(hA:bR A)(n:av)(J:jB n.2.1=true):zD (A.map bw) (aX n)=some (eU A n):=by
 have hs:=hA.many;unfold zD;rw[show(aX n).1=n.1 from rfl,of_eq A hs n.1,at0]
 have hf:∀j (h:j<A.length),zd j (aX n) (A.map bw)=some (!tc (kH n.2.1) (aO (A[j]).1.2.1)):=by intro j F;have he:=hA.dp _ (at2 F);unfold zd;rw[qY F,show(aX n).2.1=kH n.2.1 from rfl,show(bw A[j]).1.2.1=aO (A[j]).1.2.1 from rfl,aor _ (Zc J) _ (S3 he.cD (by have:=he.short.2.1;omega))];rfl
 have hlen:(kY A n.1).length<1000000000:=by
  have:=jA (e:=λi y=>if decide (y.1.1=n.1)=true then[(i:Int)]else[]) (m:=1) A 0 (λj h=>RN _ _)
  grind[kY]
 rw[ast hlen (λi=>match A[i.toNat]? with|some y=> !tc (kH n.2.1) (aO y.1.2.1)|none=>false) (λi D=>?_),at0]
 ·unfold kY eU AO;rw[aaT (p:=λy:aq=>decide (y.1.1=n.1)) (q:=λy:aq=>tc (kH n.2.1) (aO y.1.2.1)) A 0 ?_];simp_all
 ·unfold kY at D;rw[dK]at D;obtain⟨j,F,D⟩:=D;simp_all
theorem ame{s:aa}(h:jB s=true):s.length<=80:=by grind[jB]
theorem acD(A:List aq)(hA:bR A)(n:av)(D:jB n.2.1=true):FM A n=some (eU A n):=by
 have hs:=hA.many;have U:=ame D;unfold FM;rw[XH _ (by omega),if_pos D]
 simp[];rw[fQ A (λi y=>if AO n y=true then[(i:Int)]else[]) 1 0 (λk acc=>(A,(kH n.2.1).map (λa=>a.map fK),true,(k:Int),n.1,n.2.1,n.2.2,acc,())) (λacc=>(acc,())) (by grind) ?_ ?_ [] (au2 _) ?st]
 case st=>rfl
 ·rfl
 ·intro k hk acc O;have he:=hA.dp _ (at2 hk);have F:(A[k]).1.2.1.length<=20000:=by have:=he.short.2.1;omega
  have hp:rP (A[k]).1.2.1=some (bO (aO (A[k]).1.2.1),true):=by rw[DK _ F,if_pos he.cD,abn he.cD]
  have N:=amI _ (Zc D) _ (S3 he.cD F);have L:=aS k;have M:∀{R:Type} (q:Option R),J (ab .i64 (k+1:Nat)) q=q:=λq=>aC (by omega)
  simp only[Sb,dY (show(k)<(A.length:Int) by omega),cond_true,aI hk,hp,at0,N,L,M]
  unfold AO;by_cases e:(A[k]).1.1=n.1
  ·rw[dY e,cond_true,az4];rcases az9 (tc (kH n.2.1) (aO (A[k]).1.2.1))with g|g
   ·rw[g,cond_true,mZ (by omega),if_pos rfl]
   ·grind
  ·grind
 ·simp[Sb]
theorem wN{A:List aq}{n:av}{i:Int}:i∈eU A n<->∃j,∃h:j<A.length,i=((j:Nat):Int)/\AO n A[j]=true:=by grind[eU,dK]
theorem qA(A:List aq)(n:av):(eU A n).length<=A.length:=by
 have:=jA (e:=λi y=>if AO n y=true then[(i:Int)]else[]) (m:=1) A 0 (by grind)
 rw[Nat.one_mul]at this;exact this
def fD(A:List aq)(n:av):List Int:=(eU A n).map (· +1)
theorem Y8{A:List aq}{n:av}{i:Int}(h:i∈fD A n):1<=i/\i<=(A.length:Int):=by obtain⟨j,D,rfl⟩:=ax1.1 h;obtain⟨k,hk,rfl,_⟩:=wN.1 D;omega
theorem EN(A:List aq)(n:av):(fD A n).length<=A.length:=by unfold fD;rw[au1];exact qA A n
theorem apH{R:Type}{f:Int×Int×List Int×Unit->Option ((Int×Int×List Int×Unit)⊕R)}(l:List Int)(g:Int->Int)(out:List Int->R)
  (h1:∀k (h:k<l.length) (o:List Int),o.length=l.length->o[k]? =some l[k]->f ((l.length:Int),(k:Int),o,())=some (.inl ((l.length:Int),((k+1:Nat):Int),o.set k (g l[k]),())))
  (J:∀o:List Int,f ((l.length:Int),(l.length:Int),o,())=some (.inr (out o))):ae f ((l.length:Int),0,l,())=some (out (l.map g)):=by
 have:∀n k,l.length-k=n->k<=l.length->ae f (l.length,k,(l.take k).map g++l.drop k,())=some (out (l.map g)):=by
  intro n
  induction n with
  |zero=>
   intro k L hk;have e:k=l.length:=by omega
   subst e;rw[bf (J _),ay8,aw5,ax6]
  |succ n N=>
   intro k L hk;have D:k<l.length:=by omega
   have hlen:((l.take k).map g).length=k:=by simp_all
   have F:((l.take k).map g++l.drop k)[k]? =some l[k]:=by simp_all
   rw[bd (h1 k D _ (by grind) F)]
   have M:((l.take k).map g++l.drop k).set k (g l[k])=(l.take (k+1)).map g++l.drop (k+1):=by rw[List.set_append_right _ _ (by omega),hlen,Nat.sub_self,av6 D,az5 D,aw1,aw9];rfl
   grind
 exact this l.length 0 rfl (au2 _)
theorem Y7(l:List Int)(M:l.length<=1000000)(F:∀x∈l,0<=x/\x<=1000000){f:Int×Int×List Int×Unit->Option ((Int×Int×List Int×Unit)⊕(List Int×Unit))}
  (hf:f=I2\/f=Jm):ae f ((l.length:Int),0,l,())=some (l.map (· +1),()):=by
 refine apH l (· +1) (λo=>(o,())) ?_ ?_
 ·intro k hk o N J;have O:=F _ (at2 hk);have L:k<o.length:=by omega
  have D:o[k]=l[k]:=by grind
  simp[D];rcases hf with rfl|rfl
  ·simp (disch:=omega) only[K0,I2,D]
  ·simp (disch:=omega) only[K0,Jm,D]
 ·intro o;rcases hf with rfl|rfl
  ·simp[I2]
  ·simp[Jm]
abbrev aV:=List (aa×aa)
abbrev qT:=List uF×List ep×aV
abbrev adq:=List aq×List av×aV
theorem Li(A:List aq)(hA:A.length<=360)(n:av):∀x∈eU A n,0<=x/\x<=1000000:=by intro x D;obtain⟨j,F,rfl,_⟩:=wN.1 D;omega
theorem Y6(A:List aq)(hA:bR A)(c:qT)(hc:c.1=A.map bw)(n:av)(D:jB n.2.1=true):C7 c (aX n)=some (fD A n):=by have hs:=hA.many;have F:=qA A n;unfold C7;rw[hc,Ui A hA n D,at0,Y7 (eU A n) (by omega) (Li A hs n) (.inl rfl)];rfl
theorem aqT(A:List aq)(hA:bR A)(c:qT)(hc:c.1=A.map bw)(n:av)(D:jB n.2.1=true):JD c (aX n)=some (fD A n):=by have hs:=hA.many;have F:=qA A n;unfold JD;rw[hc,Ui A hA n D,at0,Y7 (eU A n) (by omega) (Li A hs n) (.inr rfl)];rfl
theorem ao4(A:List aq)(hA:bR A)(c:adq)(hc:c.1=A)(n:av)(D:jB n.2.1=true):rH c n=some (fD A n):=by
 have hs:=hA.many;have N:=qA A n;unfold rH;rw[hc,acD A hA n D,at0];have main:=tL (f:=JF) (eU A n) (λx=>x+1) (λk acc=>(eU A n,k,acc,())) (λacc=>(acc,())) ?_ ?_
 ·rw[lC main ?st]
  case st=>rfl
  rfl
 ·intro k hk acc F;have O:=Li A hs n _ (at2 hk);have L:=aS k;have M:∀{R:Type} (q:Option R),J (ab .i64 (k+1:Nat)) q=q:=λq=>aC (by omega)
  simp (disch:=omega) only[K0,JF]
 ·simp[JF]
end
end Go.Proofs.YtejhifnjgoclpaaGreatDoor.Fx
