/- Parts of the proofs, put together by a program. -/
import Derived.Test.YtejhifnjgoclpaaGreatDoorK5
import Derived.Shelf.Strings.BuilderK
import Derived.ChangeArms
import Derived.SizedLaws
import Derived.Shelf.Spec.SlicesGrow
set_option linter.unusedVariables false
set_option linter.unusedSimpArgs false
set_option linter.unusedSectionVars false
open Option renaming bind_some->at0
open Go.Proofs.Tryz renaming prog->at1
open List renaming getElem_mem->at2,length_map->au1,getElem?_eq_getElem->au4,length_append->au5,length_cons->av1,mem_append->av3,replicate->av5,drop_eq_getElem_cons->av6,mem_singleton->aw0,map_append->aw1,mem_cons->aw2,mem_cons_self->aw4,append_nil->aw5,length_take->aw7,append_assoc->aw9,all_eq_true->ax0,mem_map->ax1,take_append_drop->ax4,mem_cons_of_mem->ax5,take_length->ax6,drop_zero->ax7,getElem_map->ax8,length_nil->ay2,length_drop->ay3,length_singleton->ay7,drop_length->ay8,getElem?_eq_some_iff->ay9,not_mem_nil->az1,length_eq_zero_iff->az2,take_succ_eq_append_getElem->az5,nil_append->aB4,take_of_length_le->aB8,getD_eq_getElem?_getD->aC3,mem_filter->aC5,getElem_of_mem->aC7,pairwise_iff_getElem->aD6,pairwise_singleton->aE6,take_succ_cons->aE8,flatten_cons->aE9,getElem?_take_of_lt->aF0,pairwise_append->aF8,length_filter_le->aG3,take_zero->aG6,foldl_append->aH2,any_eq_true->aH3,getElem_drop->aH4,any_eq_false->aH6,flatten_append->aH7,drop_succ_cons->aI2,getElem?_cons_zero->aI3,mem_of_mem_take->aI6,getElem?_cons_succ->aI9
open Nat renaming le_refl->at9,zero_le->au2,le_trans->aw8,zero_add->ax2,mul_le_mul_right->az8,le_of_lt->aB7,one_mul->aC4,le_succ->aC8,mul_le_mul->aE1,lt_trichotomy->aG2
open Bool renaming and_eq_true->au0,not_true->av2,not_false->aw3,not_eq_true'->ay6,or_eq_true->az0,eq_false_or_eq_true->az9
open Go.Lib renaming hid->au3
open Int renaming toNat_natCast->av0,lt_irrefl->av8
open Go.IntKind renaming wrap->av4
namespace Go.Proofs.YtejhifnjgoclpaaGreatDoor.Fx
open Go.RowKit
set_option maxRecDepth 1000000
noncomputable section
theorem Ft{V R α σ:Type}{f:V->Option (V⊕R)}{v0:V}(l:List α)(g:σ->α->σ)(P:Nat->σ->Prop)(st:Nat->σ->V)(a:σ->R)
  (h1:∀k (h:k<l.length) s,P k s->f (st k s)=some (.inl (st (k+1) (g s l[k])))/\P (k+1) (g s l[k]))
  (L:∀s,P l.length s->f (st l.length s)=some (.inr (a s))) (s:σ) (hs:P 0 s) (h0:st 0 s=v0):ae f v0=some (a (l.foldl g s))/\P l.length (l.foldl g s):=by
 have:∀n k s,l.length-k=n->k<=l.length->P k s->ae f (st k s)=some (a ((l.drop k).foldl g s))/\P l.length ((l.drop k).foldl g s):=by
  intro n
  induction n with
  |zero=>
   intro k s M hk D;have e:k=l.length:=by omega
   subst e;rw[bf (L s D)];grind
  |succ n O=>
   intro k s M hk D;have F:k<l.length:=by omega
   obtain⟨J,N⟩:=h1 k F s D;rw[av6 F,bd J];grind
 grind
theorem eG.self{α:Type}{c:α->α->Int}(hc:eG c)(x:α):c x x=0:=by have:=hc.neg x x;omega
theorem eG.xW{α:Type}{c:α->α->Int}(hc:eG c){x y z:α}(h1:c x y<0)(h2:c y z<=0):c x z<0:=by
 have D:=hc.tr x y z (by omega) h2
 have F:=hc.neg x z;have J:=hc.neg x y;by_cases e:c x z=0
 ·have:=hc.tr y z x h2 (by omega);omega
 ·omega
theorem Qn{α:Type}{c:α->α->Int}(hc:eG c):∀{l m:List α},l.Pairwise (λx y=>c x y<0)->m.Pairwise (λx y=>c x y<0)->(∀z,z∈l<->z∈m)->l=m
 |[],[],_,_,_=>rfl
 |[],y::t,_,_,h=>absurd ((h y).2 aw4) az1
 |x::s,[],_,_,h=>absurd ((h x).1 aw4) az1
 |x::s,y::t,h1,h2,h=>by
  obtain⟨F,a2⟩:=List.pairwise_cons.1 h1;obtain⟨J,L⟩:=List.pairwise_cons.1 h2
  have M:x=y:=by
   rcases aw2.1 ((h x).1 aw4)with e|e
   ·omega
   ·rcases aw2.1 ((h y).2 aw4)with g|g
    ·grind
    ·have N:=J x e;have O:=F y g;have:=hc.neg x y;omega
  subst M
  rw[Qn hc a2 L (λz=>⟨λD=>by
   rcases aw2.1 ((h z).1 (ax5 _ D))with e|e
   ·have:=F z D;rw[e]at this;have:=hc.self x;omega
   ·exact e,λD=>by
   rcases aw2.1 ((h z).2 (ax5 _ D))with e|e
   ·have:=J z D;rw[e]at this;have:=hc.self x;omega
   ·exact e⟩)]
def cW:Want->Want->Int:=fF (λx y=>cI x.1 y.1) (λx y=>cI x.2 y.2)
theorem kC:eG cW:=(Fy.on (λx:Want=>x.1)).lex (Fy.on (λx:Want=>x.2))
theorem KH{a b:Want}(h:cW a b=0):a=b:=Prod.ext (rS (o6 h).1) (rS (o6 h).2)
theorem KW(a b:Want):cW a b=if cI a.1 b.1=0 then cI a.2 b.2 else cI a.1 b.1:=rfl
theorem aaD{a b:aa}:Op.bytesLess a b=true<->cI a b<0:=by grind[cI]
theorem Rx{a b:Want}:uo a b=true<->cW a b<0:=by
 unfold uo;rw[KW,az0,au0,decide_eq_true_eq,aaD,aaD];by_cases e:cI a.1 b.1=0
 ·rw[if_pos e];have:=rS e;constructor
  ·omega
  ·grind
 ·rw[if_neg e];constructor
  ·rintro(h|h)
   ·omega
   ·exact absurd (aqo.2 h.1) e
  ·omega
def LeW(l:aV):Prop:=l.Pairwise λx y=>cW x y<=0
theorem XV(l:aV):LeW (sr l)/\(∀z,z∈sr l<->z∈l)/\(sr l).length=l.length:=by
 have hle:∀x y:Want,(!uo y x)=true<->cW x y<=0:=λx y=>by rw[ay6,<-Bool.not_eq_true,Rx];have:=kC.neg x y;omega
 refine⟨?_,λz=>List.mem_mergeSort,List.length_mergeSort _⟩;have:=List.pairwise_mergeSort (le:=λx y:Want=> !uo y x) (λx y z h1 h2=>(hle x z).2 (kC.tr x y z ((hle x y).1 h1) ((hle y z).1 h2))) (λx y=>by rw[az0,hle,hle];have:=kC.neg x y;omega) l
 exact this.imp (λh=>(hle _ _).1 h)
def l7(l:aV):Prop:=l.Pairwise λx y=>cW x y<0
theorem Kh{z:Want}:∀{l:aV},z∈di l<->z∈l
 |[]=>Iff.rfl
 |[x]=>Iff.rfl
 |x::y::t=>by
  show z∈(if x=y then di (y::t)else x::di (y::t))<->_
  by_cases e:x=y
  ·simp_all[Kh]
  ·simp_all[Kh]
theorem Qi:∀{l:aV},LeW l->l7 (di l)
 |[],_=>List.Pairwise.nil
 |[x],_=>aE6 _ _
 |x::y::t,h=>by
  obtain⟨h1,h2⟩:=List.pairwise_cons.1 h;show l7 (if x=y then di (y::t)else x::di (y::t))
  by_cases e:x=y
  ·rw[if_pos e];exact Qi h2
  ·rw[if_neg e];refine List.pairwise_cons.2 ⟨λz D=>?_,Qi h2⟩
   have F:cW x y<0:=by
    have:=h1 y aw4;by_cases g:cW x y=0
    ·exact absurd (KH g) e
    ·omega
   rcases aw2.1 (Kh.1 D)with rfl|D
   ·omega
   ·exact kC.xW F ((List.pairwise_cons.1 h2).1 z D)
def dG(x:Want):aV->aV
 |[]=>[x]
 |y::t=>if cW y x=0 then y::t else if 0<cW y x then x::y::t else y::dG x t
theorem LI{x z:Want}:∀{l:aV},z∈dG x l<->z=x\/z∈l
 |[]=>by show z∈[x]<->_;grind
 |y::t=>by
  show z∈(if cW y x=0 then y::t else if 0<cW y x then x::y::t else y::dG x t)<->_
  by_cases e:cW y x=0
  ·rw[if_pos e,<-KH e];grind
  ·rw[if_neg e];split
   ·grind
   ·rw[aw2,LI];constructor
    ·grind
    ·grind
theorem X4{x:Want}:∀{l:aV},l7 l->l7 (dG x l)
 |[],_=>aE6 _ _
 |y::t,h=>by
  obtain⟨h1,h2⟩:=List.pairwise_cons.1 h;show l7 (if cW y x=0 then y::t else if 0<cW y x then x::y::t else y::dG x t)
  by_cases e:cW y x=0
  ·grind
  ·rw[if_neg e];have F:=kC.neg y x;by_cases g:0<cW y x
   ·rw[if_pos g];refine List.pairwise_cons.2 ⟨λz D=>?_,h⟩;rcases aw2.1 D with rfl|D
    ·omega
    ·have:=h1 z D;exact kC.xW (show cW x y<0 by omega) (by omega)
   ·rw[if_neg g];refine List.pairwise_cons.2 ⟨λz D=>?_,X4 h2⟩;rcases LI.1 D with rfl|D
    ·omega
    ·grind
theorem Sd{x:Want}:∀(l:aV),(dG x l).length<=l.length+1
 |[]=>at9 _
 |y::t=>by
  show(if cW y x=0 then y::t else if 0<cW y x then x::y::t else y::dG x t).length<=_
  split
  ·simp
  ·split
   ·simp
   ·have:=Sd (x:=x) t;grind
theorem Re:∀(r l:aV),l7 l->l7 (r.foldl (λl x=>dG x l) l)/\(∀z,z∈r.foldl (λl x=>dG x l) l<->z∈l\/z∈r)
 |[],l,h=>⟨h,λz=>⟨.inl,λh=>h.elim id (by simp)⟩⟩
 |x::t,l,h=>by
  obtain⟨h1,h2⟩:=Re t (dG x l) (X4 h);refine⟨h1,λz=>?_⟩;show z∈t.foldl (λl x=>dG x l) (dG x l)<->_;rw[h2,LI];constructor
  ·grind
  ·grind
def xa(r:aV):aV:=r.foldl (λl x=>dG x l) []
theorem anV{r:aV}{z:Want}:z∈xa r<->z∈r:=by unfold xa;rw[(Re r [] List.Pairwise.nil).2];exact⟨λh=>h.elim (by simp) id,.inr⟩
theorem QB(r:aV):l7 (xa r):=(Re r [] List.Pairwise.nil).1
theorem akB(r:aV):di (sr r)=xa r:=by obtain⟨h1,h2,_⟩:=XV r;refine Qn kC (Qi h1) (QB r) λz=>?_;rw[Kh,h2,anV]
theorem anW(r:aV):(xa r).length<=r.length:=by
 have:∀(r l:aV),(r.foldl (λl x=>dG x l) l).length<=l.length+r.length:=by
  intro r
  induction r with
  |nil=>grind
  |cons x t D=>intro l;have h1:=Sd (x:=x) l;grind
 have h:=this r [];rw[ay2,ax2]at h;exact h
def AJ(l:aV):Prop:= ∀w∈l,w.1.length<=20000/\w.2.length<=20000
theorem anX(x:Want)(l:aV)(k:Nat)(hk:k<l.length):dG x (l.drop k)=if cW l[k] x=0 then l.drop k else if 0<cW l[k] x then x::l.drop k else l[k]::dG x (l.drop (k+1)):=by rw[av6 hk];rfl
theorem apl(x:Want)(l:aV)(hs:AJ l)(Y:l.length<=1000000):∀(n k:Nat),l.length-k=n->k<=l.length->
  (ae zG (l,(k:Int),x.1,x.2,())=some (.inr (l,()))/\dG x (l.drop k)=l.drop k)\/
  (∃j,k<=j/\j<=l.length/\ae zG (l,(k:Int),x.1,x.2,())=some (.inl (l,(j:Int),x.1,x.2,()))/\l.take k++dG x (l.drop k)=l.take j++x::l.drop j):=by
 intro n
 induction n with
 |zero=>
  intro k N hk;have e:k=l.length:=by omega
  subst e;refine .inr ⟨l.length,at9 _,at9 _,bf ?_,?_⟩
  ·simp[zG,decide_false]
  ·rw[ay8];rfl
 |succ n O=>
  intro k N hk;have h:k<l.length:=by omega
  obtain⟨s1,s2⟩:=hs _ (at2 h);have U:=aS k;have M:∀{R:Type} (q:Option R),J (ab .i64 ((k+1):Int)) q=q:=λq=>aC (by grind)
  have D:=anX x l k h;have hw:=KW l[k] x
  have go:zG (l,k,x.1,x.2,())=if cW l[k] x=0 then some (.inr (.inr (l,())))else if 0<cW l[k] x then some (.inr (.inl (l,k,x.1,x.2,())))else some (.inl (l,((k+1):Int),x.1,x.2,())):=by
   simp (disch:=omega) only[K0,zG,y8 _ _ s1,y8 _ _ s2,M];rw[hw];by_cases e:cI (l[k]).1 x.1=0
   ·rw[dY e,if_pos e];by_cases F:cI (l[k]).2 x.2=0
    ·grind
    ·simp only[K0];by_cases L:0<cI (l[k]).2 x.2
     ·simp (disch:=omega) only[K0]
     ·simp (disch:=omega) only[K0]
   ·simp (disch:=omega) only[K0];by_cases L:0<cI (l[k]).1 x.1
    ·simp (disch:=omega) only[K0]
    ·simp (disch:=omega) only[K0]
  by_cases e:cW l[k] x=0
  ·rw[if_pos e]at go D;exact .inl ⟨bf go,D⟩
  ·rw[if_neg e]at go D;by_cases F:0<cW l[k] x
   ·rw[if_pos F]at go D;exact .inr ⟨k,at9 _,hk,bf go,by rw[D]⟩
   ·rw[if_neg F]at go D;rw[bd go];rcases O (k+1) (by omega) h with⟨g1,g2⟩|⟨j,g1,g2,g3,g4⟩
    ·simp_all
    ·refine .inr ⟨j,by omega,g2,g3,?_⟩
     rw[D,<-g4,az5 h,aw9];rfl
theorem put_eq(x:Want)(l:aV)(hs:AJ l)(L:l.length<=1000000):L1 l x=some (dG x l):=by
 unfold L1;have J:((0:Nat):Int)=0:=rfl;rcases apl x l hs L l.length 0 rfl (au2 _)with⟨h1,h2⟩|⟨j,h1,h2,D,F⟩
 ·grind
 ·rw[J]at D;rw[D,at0];rw[ax7,aG6,aB4]at F;have c1:(0:Int)<=0/\0<=(j:Int)/\j<=(l.length:Int):=by omega
  have c2:0<=(j:Int)/\j<=(l.length:Int)/\l.length<=(l.length:Int):=by omega
  have t1:(l.take j).length=j:=by grind
  have t3:(0:Int).toNat=0:=rfl;simp only[ai c1,ai c2,av0,t3,ax7,ax6];rw[ai (by omega),ai (by grind),ai (by grind),F,aw9];rfl
theorem am0{s:aa}(h:dt s=true):s.length<=100:=by
 unfold dt at h;have hp:∀{t:aa},bQ t=true->t.length<=20:=by intro t D;unfold bQ kI at D;simp only[au0,decide_eq_true_eq]at D;exact D.1.2.1.1
 cases e:jU s with
 |none=>grind
 |some p=>rw[e,au0]at h;have h1:=hp h.1;have h2:=hp h.2;have:=(EO e).1;omega
theorem amr{t:aa}(D:bQ t=true):t.length<=20:=by grind[bQ,kI]
theorem KT{α β σ:Type}{e:α->List β}{g:σ->β->σ}:∀(l:List α) (k:Nat) (s:σ),(aL (λ_ x=>e x) l k).foldl g s=l.foldl (λs x=>(e x).foldl g s) s
 |[],k,s=>rfl
 |x::t,k,s=>by show(e x++aL _ t (k+1)).foldl g s=_;rw[aH2,KT t (k+1)];rfl
def Mr(ns:List ep):aV:=aL (λ_ (n:ep)=>aL (λ_ f=>[(n.1,f)]) n.2.2 0) ns 0
def fg(ns:List av):aV:=aL (λ_ (n:av)=>aL (λ_ f=>[(n.1,f)]) n.2.2 0) ns 0
theorem alO(ns:List av):Mr (ns.map aX)=fg ns:=by unfold Mr fg;rw[Ym];rfl
theorem aao{α β:Type}(l:List α)(g:α->β):(aL (λ_ x=>[g x]) l 0).length<=l.length:=by have:=jA (e:=λ_ x=>[g x]) (m:=1) l 0 (by simp);rw[aC4]at this;exact this
theorem acg(f:(List ep×Int×Int×ak×Int×Int×aa×List (List cY)×ak×aV×Unit)->Option ((List ep×Int×Int×ak×Int×Int×aa×List (List cY)×ak×aV×Unit)⊕(List ep×Int×Int×aV×Unit)))(hf:f=JT\/f=JC)(l:List ep)(a b:Int)(n:ep)(M:n.2.2.length<=4)(acc:aV)(D:acc.length<=1000):
  ae f (l,a,b,n.2.2,(n.2.2.length:Int),0,n.1,n.2.1,n.2.2,acc,())=some (l,a,b,acc++aL (λ_ f=>[(n.1,f)]) n.2.2 0,()):=by
 refine fQ n.2.2 (λ_ f=>[(n.1,f)]) 1 1000 (λk acc=>(l,a,b,n.2.2,(n.2.2.length:Int),(k:Int),n.1,n.2.1,n.2.2,acc,())) (λacc=>(l,a,b,acc,())) (by simp) ?_ ?_ acc D rfl
 ·intro k hk acc D;have F:=aS k;have L:∀{R:Type} (q:Option R),J (ab .i64 (k+1:Nat)) q=q:=λq=>aC (by omega)
  rcases hf with rfl|rfl
  ·simp (disch:=omega) only[K0,JT]
  ·simp (disch:=omega) only[K0,JC]
 ·intro acc;rcases hf with rfl|rfl
  ·simp[JT]
  ·simp[JC]
theorem arP(l:List ep)(N:l.length<=8)(D:∀n∈l,n.2.2.length<=4):tH l=some (Mr l)/\Dt l=some (Mr l):=by
 have hm:∀k (h:k<l.length),(aL (λ_ f=>[((l[k]).1,f)]) (l[k]).2.2 0).length<=4:=λk h=>aw8 (aao _ _) (D _ (at2 h));refine⟨?_,?_⟩
 ·unfold tH;rw[fQ l (λ_ n=>aL (λ_ f=>[(n.1,f)]) n.2.2 0) 4 0 (λk acc=>(l,(l.length:Int),(k:Int),acc,())) (λacc=>(acc,())) hm ?_ ?_ [] (au2 _) ?st]
  case st=>rfl
  ·rfl
  ·intro k hk acc F;have L:=aS k;have M:∀{R:Type} (q:Option R),J (ab .i64 (k+1:Nat)) q=q:=λq=>aC (by omega)
   simp (disch:=omega) only[K0,Ql,acg _ (.inl rfl) l l.length k l[k] (D _ (at2 hk)) acc (by omega)]
  ·simp[Ql]
 ·unfold Dt;rw[fQ l (λ_ n=>aL (λ_ f=>[(n.1,f)]) n.2.2 0) 4 0 (λk acc=>(l,(l.length:Int),(k:Int),acc,())) (λacc=>(acc,())) hm ?_ ?_ [] (au2 _) ?st]
  case st=>rfl
  ·rfl
  ·intro k hk acc F;have L:=aS k;have M:∀{R:Type} (q:Option R),J (ab .i64 (k+1:Nat)) q=q:=λq=>aC (by omega)
   simp (disch:=omega) only[K0,Qf,acg _ (.inr rfl) l l.length k l[k] (D _ (at2 hk)) acc (by omega)]
  ·simp[Qf]
theorem SN(ns:List av)(h:bZ ns):tH (ns.map aX)=some (fg ns)/\Dt (ns.map aX)=some (fg ns):=by
 rw[<-alO];refine arP _ (by rw[au1];exact h.many) λn D=>?_
 obtain⟨x,F,rfl⟩:=ax1.1 D;exact(h.eF x F).2.2.1
theorem wb(ns:List av)(h:bZ ns):(fg ns).length<=32:=by have:=jA (e:=λ_ n=>aL (λ_ f=>[(n.1,f)]) n.2.2 0) (m:=4) ns 0 (λj D=>aw8 (aao _ _) (h.eF _ (at2 D)).2.2.1);have h2:=h.many;show(aL (λ_ n=>aL (λ_ f=>[(n.1,f)]) n.2.2 0) ns 0).length<=32;omega
theorem dM.qz{e:bN}(h:dM e):bZ e.2.2.2.2.2.2.1:=⟨h.AA,h.eF⟩
theorem dM.pn{e:bN}(h:dM e){f:fk}(hf:f∈e.2.2.2.2.2.2.2):bZ f.2:=⟨(h.sx f hf).2.1,(h.sx f hf).2.2⟩
def pH(e:bN):aV:=fg e.2.2.2.2.2.2.1++aL (λ_ (f:fk)=>fg f.2) e.2.2.2.2.2.2.2 0
def qV(A:List aq)(R:List av):aV:=fg R++aL (λ_ (y:aq)=>pH y.1) A 0
theorem aov(e:bN)(h:dM e):(aL (λ_ (f:fk)=>fg f.2) e.2.2.2.2.2.2.2 0).length<=128:=by have:=jA (e:=λ_ f=>fg f.2) (m:=32) e.2.2.2.2.2.2.2 0 (λj D=>wb _ (h.pn (at2 D)));have h2:=h.kJ;omega
theorem aaZ(e:bN)(h:dM e):(pH e).length<=160:=by have h1:=wb _ h.qz;have h2:=aov e h;unfold pH;rw[au5];omega
theorem aab(A:List aq)(hA:bR A)(R:List av)(hR:bZ R):(qV A R).length<=57632:=by have h1:=wb R hR;have h2:=jA (e:=λ_ y=>pH y.1) (m:=160) A 0 (λj D=>aaZ _ (hA.dp _ (at2 D)));have F:=hA.many;unfold qV;rw[au5];omega
def aA(A:List aq)(R:List av):aV:=xa (qV A R)
theorem SP(A:List aq)(hA:bR A)(R:List av)(hR:bZ R):(aA A R).length<=57632:=aw8 (anW _) (aab A hA R hR)
theorem asQ(D:List uF)(a b:Int)(e:bN)(h:dM e)(F:List uF)(L:List ep)(acc:aV)(M:acc.length<=100000):
  ae Kf (D,a,b,e.2.2.2.2.2.2.2.map ff,((e.2.2.2.2.2.2.2.map ff).length:Int),0,acc,F,L,())=some (D,a,b,acc++aL (λ_ (f:fk)=>fg f.2) e.2.2.2.2.2.2.2 0,F,L,()):=by
 have Z:=h.kJ;refine fQ e.2.2.2.2.2.2.2 (λ_ f=>fg f.2) 32 100000 (λk acc=>(D,a,b,e.2.2.2.2.2.2.2.map ff,((e.2.2.2.2.2.2.2.map ff).length:Int),(k:Int),acc,F,L,())) (λacc=>(D,a,b,acc,F,L,())) (λk hk=>wb _ (h.pn (at2 hk))) ?_ ?_ acc M rfl
 ·intro k hk acc M;have N:=aS k;have O:∀{R:Type} (q:Option R),J (ab .i64 (k+1:Nat)) q=q:=λq=>aC (by omega)
  have U:k<(e.2.2.2.2.2.2.2.map ff).length:=by grind
  have ah:=wb _ (h.pn (at2 hk));have Y:tH (ff e.2.2.2.2.2.2.2[k]).2=some (fg (e.2.2.2.2.2.2.2[k]).2):=(SN _ (h.pn (at2 hk))).1;simp only[Kf,au1,dY (show(k)<(e.2.2.2.2.2.2.2.length:Int) by omega),cond_true,aI U,ax8,Y,at0,N,O]
  rw[ai (by omega)]
 ·simp[Kf]
theorem asc(A:List aq)(hA:bR A)(D:List uF)(F:List ep)(acc:aV)(L:acc.length<=32):
  ae Ke (A.map bw,((A.map bw).length:Int),0,acc,D,F,())=some (acc++aL (λ_ (y:aq)=>pH y.1) A 0,D,F,()):=by
 have hs:=hA.many;refine fQ A (λ_ y=>pH y.1) 160 32 (λk acc=>(A.map bw,((A.map bw).length:Int),(k:Int),acc,D,F,())) (λacc=>(acc,D,F,())) (λk hk=>aaZ _ (hA.dp _ (at2 hk))) ?_ ?_ acc L rfl
 ·intro k hk acc L;have he:=hA.dp _ (at2 hk);have U:=aS k;have Y:∀{R:Type} (q:Option R),J (ab .i64 (k+1:Nat)) q=q:=λq=>aC (by omega)
  have O:=wb _ he.qz;have N:tH (bw A[k]).1.2.2.2.2.2.2.1=some (fg (A[k]).1.2.2.2.2.2.2.1):=(SN _ he.qz).1;have hf:(bw A[k]).1.2.2.2.2.2.2.2=(A[k]).1.2.2.2.2.2.2.2.map ff:=rfl;have Z:=asQ (A.map bw) A.length k (A[k]).1 he D F (acc++fg (A[k]).1.2.2.2.2.2.2.1) (by grind)
  have M:acc.length+(fg (A[k]).1.2.2.2.2.2.2.1).length<=1000000000:=by omega
  simp only[Ke,qY hk,N,at0,ai M];simp_all[pH]
 ·simp[Ke]
theorem AJ.put{x:Want}{l:aV}(h:AJ l)(D:x.1.length<=20000/\x.2.length<=20000):AJ (dG x l):=by
 intro w hw;rcases LI.1 hw with rfl|hw
 ·omega
 ·exact h w hw
def qS(m:Nat)(l:aV):Prop:=l.length<=m/\AJ l
theorem aqw(ns:List av)(i:Nat)(M:i<ns.length)(h:bZ ns)(F:aV)(a0:Nat)(h0:qS a0 F)(O:a0<=900000):
  ae Kn (F,ns,(i:Int),0,())=some ((ns[i]).2.2.foldl (λl f=>dG ((ns[i]).1,f) l) F,ns,(i:Int),())/\qS (a0+(ns[i]).2.2.length) ((ns[i]).2.2.foldl (λl f=>dG ((ns[i]).1,f) l) F):=by
 have L:=h.eF _ (at2 M);have N:=L.2.2.1;refine Ft (ns[i]).2.2 (λl f=>dG ((ns[i]).1,f) l) (λk l=>qS (a0+k) l) (λk l=>(l,ns,(i:Int),(k:Int),())) (λl=>(l,ns,(i:Int),())) ?_ ?_ F h0 rfl
 ·intro k hk l D;have U:=aS k;have Y:∀{R:Type} (q:Option R),J (ab .i64 (k+1:Nat)) q=q:=λq=>aC (by omega)
  have e:=put_eq ((ns[i]).1,(ns[i]).2.2[k]) l D.2 (by have:=D.1;omega)
  refine⟨?_,?_,D.2.put ⟨?_,?_⟩⟩
  ·simp (disch:=omega) only[K0,Kn,e]
  ·have h1:=Sd (x:=((ns[i]).1,(ns[i]).2.2[k])) l;have h2:=D.1;omega
  ·have:=am0 L.1;grind
  ·have:=amr (L.2.2.2.1 _ (at2 hk));grind
 ·intro l D;simp[Kn,aI M]
theorem T1(ns:List av)(h:bZ ns)(D:aV)(a0:Nat)(h0:qS a0 D)(U:a0<=800000):
  zH D ns=some ((fg ns).foldl (λl x=>dG x l) D)/\qS (a0+32) ((fg ns).foldl (λl x=>dG x l) D):=by
 have hm:=h.many;have main:=Ft (f:=Km) (v0:=(D,ns,0,())) ns (λl n=>n.2.2.foldl (λl f=>dG (n.1,f) l) l) (λk l=>qS (a0+4*k) l) (λk l=>(l,ns,k,())) (λl=>(l,())) ?_ ?_ D h0 rfl
 ·have e:(fg ns).foldl (λl x=>dG x l) D=ns.foldl (λl n=>n.2.2.foldl (λl f=>dG (n.1,f) l) l) D:=by
    simp[fg,KT]
  rw[e];refine⟨?_,?_,main.2.2⟩
  ·simp[zH,main.1]
  ·have:=main.2.1;omega
 ·intro k hk l L;have Y:=aS k;have Z:∀{R:Type} (q:Option R),J (ab .i64 (k+1:Nat)) q=q:=λq=>aC (by omega)
  obtain⟨M,N,F⟩:=aqw ns k hk h l _ L (by omega)
  have O:=(h.eF _ (at2 hk)).2.2.1;refine⟨?_,?_,F⟩
  ·simp_all[Km]
  ·omega
 ·simp[Km]
theorem aq8(A:List aq)(i:Nat)(U:i<A.length)(he:dM (A[i]).1)(F:List aq)(L:List av)(D:aV)(a0:Nat)(h0:qS a0 D)(Z:a0<=700000):
  ae ES (A,(i:Int),0,F,L,D,())=some (A,(i:Int),F,L,(aL (λ_ (f:fk)=>fg f.2) (A[i]).1.2.2.2.2.2.2.2 0).foldl (λl x=>dG x l) D,())/\qS (a0+128) ((aL (λ_ (f:fk)=>fg f.2) (A[i]).1.2.2.2.2.2.2.2 0).foldl (λl x=>dG x l) D):=by
 have hm:=he.kJ;rw[KT];have main:=Ft (f:=ES) (v0:=(A,i,0,F,L,D,())) (A[i]).1.2.2.2.2.2.2.2 (λl f=>(fg f.2).foldl (λl x=>dG x l) l) (λk l=>qS (a0+32*k) l) (λk l=>(A,i,k,F,L,l,())) (λl=>(A,i,F,L,l,())) ?_ ?_ D h0 rfl
 ·exact⟨main.1,by have:=main.2.1;omega,main.2.2⟩
 ·intro k hk l M;have ah:=aS k;have an:∀{R:Type} (q:Option R),J (ab .i64 (k+1:Nat)) q=q:=λq=>aC (by omega)
  obtain⟨N,Y,O⟩:=T1 _ (he.pn (at2 hk)) l _ M (by omega)
  refine⟨?_,?_,O⟩
  ·simp (disch:=omega) only[K0,ES,N]
  ·omega
 ·intro l M;simp[ES,aI U]
theorem aq9(A:List aq)(hA:bR A)(R:List av)(hR:bZ R):L2 A R=some (A,R,aA A R):=by
 have hs:=hA.many;obtain⟨M,N⟩:=T1 R hR [] 0 ⟨at9 _,λw hw=>(az1 hw).elim⟩ (by simp)
 have main:=Ft (f:=K4) (v0:=(A,0,A,R,(fg R).foldl (λl x=>dG x l) [],())) A (λl y=>(pH y.1).foldl (λl x=>dG x l) l) (λk l=>qS (32+160*k) l) (λk l=>(A,k,A,R,l,())) (λl=>(A,R,l,())) ?_ ?_ _ N rfl
 ·unfold L2;rw[M,at0,main.1];show some (A,R,_)=_;unfold aA xa qV;rw[aH2,KT]
 ·intro k hk l L;have he:=hA.dp _ (at2 hk);have O:=aS k;have U:∀{R:Type} (q:Option R),J (ab .i64 (k+1:Nat)) q=q:=λq=>aC (by omega)
  obtain⟨D,F⟩:=T1 _ he.qz l _ L (by omega)
  obtain⟨g1,g2⟩:=aq8 A k hk he A R _ _ F (by omega)
  have hw:(pH (A[k]).1).foldl (λl x=>dG x l) l=(aL (λ_ f=>fg f.2) (A[k]).1.2.2.2.2.2.2.2 0).foldl (λl x=>dG x l) ((fg (A[k]).1.2.2.2.2.2.2.1).foldl (λl x=>dG x l) l):=by unfold pH;grind
  refine⟨?_,?_⟩
  ·simp (disch:=omega) only[K0,hw,K4,D,g1]
  ·grind
 ·simp[K4]
def bA(A:List aq)(R:List av):qT:=(A.map bw,R.map aX,aA A R)
def jF(A:List aq)(R:List av):adq:=(A,R,aA A R)
theorem asb(A:List aq)(hA:bR A)(R:List av)(hR:bZ R):KU (A.map bw) (R.map aX)=
  if 400<A.length+(aA A R).length then some (.inr (2,()))else(vM (bA A R)).bind λfacts=>bif decide ((8000:Int)<(facts.length:Int))then some (.inr (2,()))else some (.inl (bA A R,0,())):=by
 have hs:=hA.many;have N:=aab A hA R hR;have M:=SP A hA R hR;have h1:=wb R hR;obtain⟨_,_,hlen⟩:=XV (qV A R);have F:wh (qV A R)=some (sr (qV A R)):=by unfold wh;grind
 have D:CX (sr (qV A R))=some (aA A R):=by rw[amU _ (by omega),akB];rfl
 have J:yO (A.map bw,R.map aX,aA A R)=some ((A.length+(aA A R).length:Nat):Int):=by simp (disch:=omega) only[K0,yO,au1];rfl
 unfold KU;simp only[K0,(SN R hR).2,asc A hA _ _ _ h1];show(wh (qV A R)).bind _=_;have L:(fg R++aL (λ_ y=>pH y.1) A 0).length=(sr (qV A R)).length:=hlen.symm;simp (disch:=omega) only[K0,F,D,J];by_cases e:400<A.length+(aA A R).length
 ·grind
 ·simp (disch:=omega) only[K0];rfl
theorem aqJ(A:List aq)(hA:bR A)(R:List av)(hR:bZ R):yO (bA A R)=some ((A.length+(aA A R).length:Nat):Int)/\J1 (jF A R)=some ((A.length+(aA A R).length:Nat):Int):=by
 have hs:=hA.many;have D:=SP A hA R hR;refine⟨?_,?_⟩
 ·unfold yO bA;show J (ab .i64 (((A.map bw).length)+((aA A R).length))) _=_;rw[au1,ai (ba (by omega))]
  rfl
 ·unfold J1 jF;show J (ab .i64 (A.length+((aA A R).length))) _=_;rw[ai (ba (by omega))];rfl
abbrev aN:=Int×Int×Int×Int×Int
def qE(D:Nat->aN)(F:Nat->Nat->aN)(ns:List av):List aN:=aL (λi (n:av)=>D i::aL (λk (_:aa)=>[F i k]) n.2.2 0) ns 0
theorem rR{α β:Type}(l:List α)(g:Nat->α->β)(j:Nat):(aL (λk x=>[g k x]) l j).length=l.length:=by
 induction l generalizing j with
 |nil=>rfl
 |cons x t D=>show([g j x]++aL _ t (j+1)).length=_;grind
theorem KO(D:Nat->aN)(F:Nat->Nat->aN)(ns:List av)(h:bZ ns):(qE D F ns).length<=40:=by
 have:=jA (e:=λi n=>D i::aL (λk _=>[F i k]) n.2.2 0) (m:=5) ns 0 (λj J=>by have:=(h.eF _ (at2 J)).2.2.1;rw[av1,rR];omega)
 have h2:=h.many;show(aL _ ns 0).length<=40;omega
theorem apc(x:qT)(ns:List av)(h:bZ ns):ae Jc (x,ns.map aX,((ns.map aX).length:Int),0,[],())=some (x,qE (λi=>(1,(i:Int),0,0,0)) (λi k=>(2,(i:Int),(k:Int),0,0)) ns,()):=by
 have hm:=h.many;refine fQ ns (λi n=>(1,(i:Int),0,0,0)::aL (λk _=>[(2,i,(k:Int),0,0)]) n.2.2 0) 5 0 (λk acc=>(x,ns.map aX,((ns.map aX).length:Int),(k:Int),acc,())) (λacc=>(x,acc,())) (λk hk=>?_) ?_ ?_ [] (at9 _) rfl
 ·have:=(h.eF _ (at2 hk)).2.2.1;rw[av1,rR];omega
 ·intro k hk acc F;have D:=aS k;have L:∀{R:Type} (q:Option R),J (ab .i64 (k+1:Nat)) q=q:=λq=>aC (by omega)
  have O:k<(ns.map aX).length:=by grind
  have M:=(h.eF _ (at2 hk)).2.2.1;have hf:(aX ns[k]).2.2=(ns[k]).2.2:=rfl;have inner:=fQ (f:=Jd) (v0:=(x,k,ns.map aX,ns.length,k,((ns[k]).2.2.length),0,acc++[(1,(k:Int),0,0,0)],())) (ns[k]).2.2 (λj _=>[(2,(k:Int),(j:Int),0,0)]) 1 100 (λj acc=>(x,k,ns.map aX,ns.length,k,((ns[k]).2.2.length),j,acc,())) (λacc=>(x,ns.map aX,ns.length,k,acc,())) (by simp) ?_ ?_ (acc++[(1,(k:Int),0,0,0)]) (by grind) rfl
  ·simp (disch:=omega) only[K0,Jc,au1,ax8,hf,inner];grind
  ·intro j N acc F;have D:=aS j;have L:∀{R:Type} (q:Option R),J (ab .i64 (j+1:Nat)) q=q:=λq=>aC (by omega)
   simp (disch:=omega) only[K0,Jd,D]
  ·simp[Jd]
 ·simp[Jc]
def pa(i:Nat)(e:bN):List aN:=qE (λk=>(4,(i:Int),(k:Int),0,0)) (λk j=>(5,(i:Int),(k:Int),(j:Int),0)) e.2.2.2.2.2.2.1
theorem Y9(A:List aq)(hA:bR A)(c:qT)(hc:c.1=A.map bw)(i:Nat)(F:i<A.length):yH c (i:Int)=some (pa i (A[i]).1):=by
 have h:=(hA.dp _ (at2 F)).qz;unfold yH;rw[hc,qY F];show(ae I3 ((i:Int),(A[i]).1.2.2.2.2.2.2.1.map aX,(((A[i]).1.2.2.2.2.2.2.1.map aX).length:Int),0,[],())).bind _=_;unfold pa;generalize(A[i]).1.2.2.2.2.2.2.1=ns at h;have hm:=h.many;have O:∀k (hk:k<ns.length),(((4,(i:Int),(k:Int),0,0):aN)::aL (λj (_:aa)=>[(5,(i:Int),(k:Int),(j:Int),0)]) (ns[k]).2.2 0).length<=5:=by intro k hk;have:=(h.eF _ (at2 hk)).2.2.1;rw[av1,rR];omega
 rw[fQ ns (λk (n:av)=>((4,(i:Int),(k:Int),0,0):aN)::aL (λj (_:aa)=>[(5,(i:Int),(k:Int),(j:Int),0)]) n.2.2 0) 5 0 (λk acc=>((i:Int),ns.map aX,((ns.map aX).length:Int),(k:Int),acc,())) (λacc=>(acc,())) O ?_ ?_ [] (at9 _) ?st]
 case st=>rfl
 ·rfl
 ·intro k hk acc L;have D:=aS k;have M:∀{R:Type} (q:Option R),J (ab .i64 ((k+1:Nat):Int)) q=q:=λq=>aC (show k+1<=4611686018427387904 by omega)
  have Y:k<(ns.map aX).length:=by grind
  have U:=(h.eF _ (at2 hk)).2.2.1;have hf:(aX ns[k]).2.2=(ns[k]).2.2:=rfl;have inner:=fQ (f:=I4) (v0:=((i:Int),(k:Int),ns.map aX,(ns.length:Int),(k:Int),((ns[k]).2.2.length:Int),0,acc++[(4,(i:Int),(k:Int),0,0)],())) (ns[k]).2.2 (λj (_:aa)=>[((5,(i:Int),(k:Int),(j:Int),0):aN)]) 1 100 (λj acc=>((i:Int),(k:Int),ns.map aX,(ns.length:Int),(k:Int),((ns[k]).2.2.length:Int),(j:Int),acc,())) (λacc=>((i:Int),ns.map aX,(ns.length:Int),(k:Int),acc,())) (λj N=>at9 _) ?_ ?_ (acc++[(4,(i:Int),(k:Int),0,0)]) (by rw[au5,ay7];omega) rfl
  ·simp (disch:=omega) only[K0,I3,au1,ax8,hf,inner];grind
  ·intro j N acc L;have D:=aS j;have M:∀{R:Type} (q:Option R),J (ab .i64 ((j+1:Nat):Int)) q=q:=λq=>aC (show j+1<=4611686018427387904 by omega)
   simp (disch:=omega) only[K0,I4,D]
  ·simp[I4]
 ·simp[I3]
def AN(A:List aq)(i:Nat)(s:aa):List aN:=aL (λ_ y=>if decide ((i:Int)<y)=true then[(3,(i:Int),y,0,0)]else[]) (kY A s) 0
def NA(A:List aq)(i:Nat)(bs:List av):List aN:=aL (λk (n:av)=>aL (λ_ y=>[(9,(i:Int),(k:Int),y,0)]) (eU A n) 0) bs 0
def pk(A:List aq)(i:Nat)(e:bN):List aN:=AN A i e.1++NA A i e.2.2.2.2.2.1
theorem abF(A:List aq)(s:aa):(kY A s).length<=A.length:=by
 have:=jA (e:=λi y=>if decide (y.1.1=s)=true then[(i:Int)]else[]) (m:=1) A 0 (by grind)
 rw[aC4]at this;exact this
theorem Zk(A:List aq)(i:Nat)(s:aa):(AN A i s).length<=A.length:=by
 have:=jA (e:=λ_ y=>if decide ((i:Int)<y)=true then[((3,i,y,0,0):aN)]else[]) (m:=1) (kY A s) 0 (by grind)
 have h2:=abF A s;show(aL _ _ 0).length<=_;omega
theorem aqv(A:List aq)(i:Nat)(bs:List av):(NA A i bs).length<=A.length*bs.length:=
 jA bs 0 (λj h=>by rw[rR];exact qA _ _)
theorem aak(A:List aq)(hA:bR A)(c:qT)(hc:c.1=A.map bw)(i:Nat)(L:i<A.length):yK c (i:Int)=some (pk A i (A[i]).1):=by
 have hs:=hA.many;have he:=hA.dp _ (at2 L);have O:=he.sB;have ho:=abF A (A[i]).1.1;have hp:=Zk A i (A[i]).1.1;unfold yK;rw[hc,qY L];rw[show(bw A[i]).1.1=(A[i]).1.1 from rfl,of_eq A hs,at0]
 have l1:=fQ (f:=Ja) (v0:=(c,(i:Int),((kY A (A[i]).1.1).length:Int),0,kY A (A[i]).1.1,[],())) (kY A (A[i]).1.1) (λ_ y=>if decide ((i:Int)<y)=true then[((3,(i:Int),y,0,0):aN)]else[]) 1 0 (λk acc=>(c,(i:Int),((kY A (A[i]).1.1).length:Int),(k:Int),kY A (A[i]).1.1,acc,())) (λacc=>(c,(i:Int),acc,())) (λk h=>RN _ _) ?_ ?_ [] (at9 _) rfl
 ·rw[l1,at0];simp only[hc,qY L];show(ae I9 (c,(i:Int),(A[i]).1.2.2.2.2.2.1.map aX,(((A[i]).1.2.2.2.2.2.1.map aX).length:Int),0,AN A i (A[i]).1.1,())).bind _=_;unfold pk;have N:=he.Bf;generalize(A[i]).1.2.2.2.2.2.1=bs at N O;rw[fQ bs (λk (n:av)=>aL (λ_ y=>[((9,(i:Int),(k:Int),y,0):aN)]) (eU A n) 0) 360 400 (λk acc=>(c,(i:Int),bs.map aX,((bs.map aX).length:Int),(k:Int),acc,())) (λacc=>(acc,())) (λk hk=>by rw[rR];have:=qA A bs[k];omega) ?_ ?_ (AN A i (A[i]).1.1) (by omega) ?st]
  case st=>rfl
  ·rfl
  ·intro k hk acc M;have D:=aS k;have F:∀{R:Type} (q:Option R),J (ab .i64 ((k+1:Nat):Int)) q=q:=λq=>aC (show k+1<=4611686018427387904 by omega)
   have Z:k<(bs.map aX).length:=by grind
   have U:=Ui A hA bs[k] (N _ (at2 hk)).2.1;have ah:=qA A bs[k];have inner:=fQ (f:=I') (v0:=(c,(i:Int),(k:Int),bs.map aX,(bs.length:Int),(k:Int),((eU A bs[k]).length:Int),0,acc,eU A bs[k],())) (eU A bs[k]) (λ_ y=>[((9,(i:Int),(k:Int),y,0):aN)]) 1 10000 (λj acc=>(c,(i:Int),(k:Int),bs.map aX,(bs.length:Int),(k:Int),((eU A bs[k]).length:Int),(j:Int),acc,eU A bs[k],())) (λacc=>(c,(i:Int),bs.map aX,(bs.length:Int),(k:Int),acc,())) (λj Y=>at9 _) ?_ ?_ acc (by omega) rfl
   ·simp only[I9,au1,dY (show((k:Nat):Int)<(bs.length:Int) by omega),cond_true,aI Z,ax8,hc,U,at0,inner,D,F]
   ·intro j Y acc M;have D:=aS j;have F:∀{R:Type} (q:Option R),J (ab .i64 ((j+1:Nat):Int)) q=q:=λq=>aC (show j+1<=4611686018427387904 by omega)
    simp (disch:=omega) only[K0,I',D]
   ·intro acc;simp only[I',av8,decide_false,cond_false]
  ·intro acc;simp only[I9,au1,av8,decide_false,cond_false]
 ·intro k hk acc M;have D:=aS k;have F:∀{R:Type} (q:Option R),J (ab .i64 ((k+1:Nat):Int)) q=q:=λq=>aC (show k+1<=4611686018427387904 by omega)
  have c1:(0:Int)<=(k:Int)/\(k:Int)<((kY A (A[i]).1.1).length:Int):=by omega
  simp (disch:=omega) only[K0,Ja,F];by_cases e:(i:Int)<(kY A (A[i]).1.1)[k]
  ·rw[dY e,cond_true,if_pos rfl]
  ·rw[dN e,cond_false,if_neg (by decide),aw5]
 ·intro acc;simp only[Ja,av8,decide_false,cond_false]
def iN(e:bN)(s:aa):Option fk:=if bC e.2.2.2.2.2.2.2 (λf=>decide (f.1=s))<0 then none else e.2.2.2.2.2.2.2[(bC e.2.2.2.2.2.2.2 (λf=>decide (f.1=s))).toNat]?
theorem EH{e:bN}{s:aa}{f:fk}(h:iN e s=some f):f∈e.2.2.2.2.2.2.2:=by grind[iN]
def uB(i t:Nat)(e:bN)(w:Want):List aN:=if decide (w.1=e.1)=true then(match iN e w.2 with
 |none=>[(6,(i:Int),(t:Int),0,0)]
 |some f=>qE (λk=>(7,(i:Int),(t:Int),(k:Int),0)) (λk j=>(8,(i:Int),(t:Int),(k:Int),(j:Int))) f.2)else[]
def n9(T:aV)(i:Nat)(e:bN):List aN:=aL (λt w=>uB i t e w) T 0
theorem ZJ(i t:Nat)(e:bN)(he:dM e)(w:Want):(uB i t e w).length<=40:=by
 unfold uB;split
 ·cases h:iN e w.2 with
  |none=>grind
  |some f=>exact KO _ _ _ (he.pn (EH h))
 ·grind
theorem aaH{α β:Type}(l:List α)(g:α->β)(p:β->Bool):bC (l.map g) p=bC l (λx=>p (g x)):=by unfold bC;rw[List.findIdx?_map];rfl
theorem aaU(A:List aq)(hA:bR A)(c:qT)(hc:c.1=A.map bw)(hT:c.2.2.length<=60000)(i:Nat)(Y:i<A.length):yA c (i:Int)=some (n9 c.2.2 i (A[i]).1):=by
 have hs:=hA.many;have he:=hA.dp _ (at2 Y);have Z:=he.kJ;unfold yA n9;generalize a1:c.2.2=T at hT;rw[fQ T (λt w=>uB i t (A[i]).1 w) 40 0 (λk acc=>(c,(i:Int),T,(T.length:Int),(k:Int),acc,())) (λacc=>(acc,())) (λk hk=>ZJ i k _ he _) ?_ ?_ [] (at9 _) ?st]
 case st=>rfl
 ·rfl
 ·intro k hk acc U;have D:=aS k;have F:∀{R:Type} (q:Option R),J (ab .i64 ((k+1:Nat):Int)) q=q:=λq=>aC (show k+1<=4611686018427387904 by omega)
  have hn:(bw A[i]).1.1=(A[i]).1.1:=rfl
  have ah:∀s,tA (bw A[i]).1 s=some (bC (A[i]).1.2.2.2.2.2.2.2 (λf=>decide (f.1=s))):=by
   intro s;rw[Tx _ _ (by show(((A[i]).1.2.2.2.2.2.2.2.map ff).length)<=1000;rw[au1];omega)]
   show some (bC ((A[i]).1.2.2.2.2.2.2.2.map ff) _)=_;rw[aaH];rfl
  have an:(bw A[i]).1.2.2.2.2.2.2.2=(A[i]).1.2.2.2.2.2.2.2.map ff:=rfl;simp only[P2,dY (show((k:Nat):Int)<(T.length:Int) by omega),cond_true,aI hk,hc,qY Y,hn,ah,an,at0,D,F]
  unfold uB;by_cases O:(T[k]).1=(A[i]).1.1
  ·rw[dY O,av2,cond_false,if_pos rfl];unfold iN;rcases kD (A[i]).1.2.2.2.2.2.2.2 (λf=>decide (f.1=(T[k]).2))with⟨_,q⟩|⟨j,L,_,q,_,_⟩
   ·rw[q,dY (show(-1:Int)<0 by decide),cond_true,mZ (by omega)]
    rfl
   ·rw[q,dN (show¬(((j:Nat):Int)<0) by omega),cond_false,if_neg (by omega),av0,au4 L]
    simp only[];have ar:j<((A[i]).1.2.2.2.2.2.2.2.map ff).length:=by rw[au1];exact L
    rw[aI ar,ax8];have M:=he.pn (at2 L);show(ae IP (c,(i:Int),(k:Int),T,(T.length:Int),(k:Int),((A[i]).1.2.2.2.2.2.2.2[j]).2.map aX,((((A[i]).1.2.2.2.2.2.2.2[j]).2.map aX).length:Int),0,acc,())).bind _=_;generalize((A[i]).1.2.2.2.2.2.2.2[j]).2=ns at M;have hm:=M.many;have aE:∀k1 (hk:k1<ns.length),(((7,(i:Int),(k:Int),(k1:Int),0):aN)::aL (λj (_:aa)=>[(8,(i:Int),(k:Int),(k1:Int),(j:Int))]) (ns[k1]).2.2 0).length<=5:=by intro k1 N;have:=(M.eF _ (at2 N)).2.2.1;rw[av1,rR];omega
    rw[fQ ns (λk1 (n:av)=>((7,(i:Int),(k:Int),(k1:Int),0):aN)::aL (λj (_:aa)=>[(8,(i:Int),(k:Int),(k1:Int),(j:Int))]) n.2.2 0) 5 10000000 (λk1 acc=>(c,(i:Int),(k:Int),T,(T.length:Int),(k:Int),ns.map aX,((ns.map aX).length:Int),(k1:Int),acc,())) (λacc=>(c,(i:Int),T,(T.length:Int),(k:Int),acc,())) aE ?_ ?_ acc (by omega) ?st]
    case st=>rfl
    ·simp only[at0,D,F];rfl
    ·intro k1 N acc U;have D:=aS k1;have F:∀{R:Type} (q:Option R),J (ab .i64 ((k1+1:Nat):Int)) q=q:=λq=>aC (show k1+1<=4611686018427387904 by omega)
     have az:k1<(ns.map aX).length:=by grind
     have Z:=(M.eF _ (at2 N)).2.2.1;have hf:(aX ns[k1]).2.2=(ns[k1]).2.2:=rfl;have inner:=fQ (f:=IQ) (v0:=(c,(i:Int),(k:Int),(k1:Int),T,(T.length:Int),(k:Int),ns.map aX,(ns.length:Int),(k1:Int),((ns[k1]).2.2.length:Int),0,acc++[(7,(i:Int),(k:Int),(k1:Int),0)],())) (ns[k1]).2.2 (λj (_:aa)=>[((8,(i:Int),(k:Int),(k1:Int),(j:Int)):aN)]) 1 100000000 (λj acc=>(c,(i:Int),(k:Int),(k1:Int),T,(T.length:Int),(k:Int),ns.map aX,(ns.length:Int),(k1:Int),((ns[k1]).2.2.length:Int),(j:Int),acc,())) (λacc=>(c,(i:Int),(k:Int),T,(T.length:Int),(k:Int),ns.map aX,(ns.length:Int),(k1:Int),acc,())) (λj L=>at9 _) ?_ ?_ (acc++[(7,(i:Int),(k:Int),(k1:Int),0)]) (by rw[au5,ay7];omega) rfl
     ·simp only[IP,au1,dY (show((k1:Nat):Int)<(ns.length:Int) by omega),aI az,ax8,hf,mZ (x:=((7,(i:Int),(k:Int),(k1:Int),0):aN)) (show acc.length<=999999999 by omega),inner,at0,D,F]
      rw[aw9];rfl
     ·intro j L acc U;have D:=aS j;have F:∀{R:Type} (q:Option R),J (ab .i64 ((j+1:Nat):Int)) q=q:=λq=>aC (show j+1<=4611686018427387904 by omega)
      simp only[IQ,dY (show((j:Nat):Int)<((ns[k1]).2.2.length:Int) by omega),cond_true,mZ (x:=((8,(i:Int),(k:Int),(k1:Int),(j:Int)):aN)) (show acc.length<=999999999 by omega),D,F]
     ·intro acc;simp only[IQ,av8,decide_false,cond_false]
    ·intro acc;simp only[IP,au1,av8,decide_false,cond_false]
  ·rw[dN O,aw3,cond_true,if_neg (by decide),aw5]
 ·intro acc;simp only[P2,av8,decide_false,cond_false]
def nq(A:List aq)(T:aV)(i:Nat)(e:bN):List aN:=(pa i e++pk A i e)++n9 T i e
def gH(A:List aq)(R:List av)(T:aV):List aN:=qE (λi=>(1,(i:Int),0,0,0)) (λi k=>(2,(i:Int),(k:Int),0,0)) R++aL (λi (y:aq)=>nq A T i y.1) A 0
theorem LQ(A:List aq)(hA:A.length<=360)(T:aV)(hT:T.length<=60000)(i:Nat)(e:bN)(he:dM e):(nq A T i e).length<=2000+40*T.length:=by have h1:(pa i e).length<=40:=KO _ _ _ he.qz;have h2:=Zk A i e.1;have F:=aqv A i e.2.2.2.2.2.1;have D:=he.sB;have J:(n9 T i e).length<=40*T.length:=jA T 0 (λj M=>ZJ i _ e he _);have L:=aE1 hA D;unfold nq pk;simp[au5];omega
theorem aac(A:List aq)(hA:bR A)(R:List av)(hR:bZ R)(T:aV)(hT:T.length<=60000):(gH A R T).length<=40+(2000+40*T.length)*A.length:=by have h1:=KO (λi=>(1,i,0,0,0)) (λi k=>(2,i,k,0,0)) R hR;have h2:=jA (e:=λi y=>nq A T i y.1) (m:=2000+40*T.length) A 0 (λj D=>LQ A hA.many T hT _ _ (hA.dp _ (at2 D)));unfold gH;rw[au5];omega
theorem aow(A:List aq)(hA:bR A)(c:qT)(hc:c.1=A.map bw)(hT:c.2.2.length<=400)(acc:List aN)(D:acc.length<=40):
  ae Jb (c,(c.1.length:Int),0,acc,())=some (acc++aL (λi (y:aq)=>nq A c.2.2 i y.1) A 0,()):=by
 have hs:=hA.many;have hlen:c.1.length=A.length:=by grind
 refine fQ A (λi y=>nq A c.2.2 i y.1) 18000 40 (λk acc=>(c,(c.1.length:Int),(k:Int),acc,())) (λacc=>(acc,())) (λk hk=>?_) ?_ ?_ acc D rfl
 ·have:=LQ A hs c.2.2 (by omega) k _ (hA.dp _ (at2 hk));omega
 ·intro k hk acc D;have M:=aS k;have N:∀{R:Type} (q:Option R),J (ab .i64 (k+1)) q=q:=λq=>aC (by grind)
  have F:=LQ A hs c.2.2 (by omega) k _ (hA.dp _ (at2 hk))
  unfold nq at F;simp_all;have c2:(acc++pa k (A[k]).1).length+(pk A k (A[k]).1).length<=1000000000:=by grind
  have L:((acc++pa k (A[k]).1)++pk A k (A[k]).1).length+(n9 c.2.2 k (A[k]).1).length<=1000000000:=by grind
  simp (disch:=omega) only[K0,Jb,Y9 A hA c hc k hk,aak A hA c hc k hk,aaU A hA c hc (by omega) k hk]
  simp[nq]
 ·simp[Jb,hlen]
def pJ:aN->aN->Int:=fF (λx y=>aK x.1 y.1) (fF (λx y=>aK x.2.1 y.2.1) (fF (λx y=>aK x.2.2.1 y.2.2.1) (fF (λx y=>aK x.2.2.2.1 y.2.2.2.1) (λx y=>aK x.2.2.2.2 y.2.2.2.2))))
theorem Ah:eG pJ:=(mc.on (λx:aN=>x.1)).lex ((mc.on (λx:aN=>x.2.1)).lex ((mc.on (λx:aN=>x.2.2.1)).lex ((mc.on (λx:aN=>x.2.2.2.1)).lex (mc.on (λx:aN=>x.2.2.2.2)))))
theorem aoG{a b:aN}(h:pJ a b=0):a=b:=by obtain⟨h1,h⟩:=o6 h;obtain⟨h2,h⟩:=o6 h;obtain⟨D,h⟩:=o6 h;obtain⟨F,J⟩:=o6 h;exact Prod.ext (ig.1 h1) (Prod.ext (ig.1 h2) (Prod.ext (ig.1 D) (Prod.ext (ig.1 F) (ig.1 J))))
def MD(a b c d e:Int):Int:=if a=0 then(if b=0 then(if c=0 then(if d=0 then e else d)else c)else b)else a
theorem aqm(x y:aN):pJ x y=MD (aK x.1 y.1) (aK x.2.1 y.2.1) (aK x.2.2.1 y.2.2.1) (aK x.2.2.2.1 y.2.2.2.1) (aK x.2.2.2.2 y.2.2.2.2):=rfl
theorem or_eq(l:List Int)(D:l.length<=1000):KV l=some ((l.find? λx=> !decide (x=0)).getD 0):=by
 unfold KV;have main:=wo (f:=DR) l (λx=> !decide (x=0)) (λk=>(0,l,l.length,k,())) (λx=>.inr (x,())) (.inl (0,())) ?_ ?_ ?_
 ·rw[lC main ?st]
  case st=>rfl
  cases(l.find? λx=> !decide (x=0))<;>rfl
 ·intro k hk hp;have hp:decide (l[k]=0)=true:=by rw[Bool.not_eq_false']at hp;exact hp
  simp only[DR,dY (show(k)<(l.length:Int) by omega),cond_true,aI hk,dY (of_decide_eq_true hp),av2,cond_false,aC (show k+1<=4611686018427387904 by omega),aS]
 ·intro k hk hp;have hp:decide (l[k]=0)=false:=by rw[ay6]at hp;exact hp
  simp only[DR,dY (show(k)<(l.length:Int) by omega),cond_true,aI hk,dN (of_decide_eq_false hp),aw3]
 ·simp[DR]
theorem alv(a b c d e:Int):(([a,b,c,d,e].find? λx=> !decide (x=0)).getD 0)=MD a b c d e:=by
 unfold MD;simp only[List.find?_cons];by_cases h1:a=0
 ·grind
 ·grind
theorem alB(a b:aN):qh a b=some (pJ a b):=by unfold qh;simp only[zC,at0];rw[or_eq _ (by simp),alv];rfl
theorem alA:iz (λ_=>True) (λx y=>qh x y) pJ:=Ah.ok (λx y _ _=>alB x y) (λx y _ _ h=>aoG h)
def Mo(l:List aN):Prop:=l.Pairwise λx y=>¬pJ y x<0
theorem aaW(A:List aq)(hA:bR A)(R:List av)(hR:bZ R)(hT:(aA A R).length<=400):∃D,vM (bA A R)=some D/\D.Perm (gH A R (aA A R))/\Mo D:=by
 have hs:=hA.many;have h1:(qE (λi=>(1,i,0,0,0)) (λi k=>(2,i,k,0,0)) R).length<=40:=KO _ _ R hR;have hlen:=aac A hA R hR (aA A R) (by omega)
 have hmul:(2000+40*(aA A R).length)*A.length<=18000*360:=aE1 (by omega) hs
 obtain⟨o,M,F,N⟩:=aiA alA (gH A R (aA A R)) (by simp) (by omega)
 refine⟨o,?_,F,N⟩;unfold vM;have J:=apc (bA A R) R hR;rw[show(bA A R).2.1=R.map aX from rfl,J]
 have L:=aow A hA (bA A R) rfl hT _ h1;simp only[L,at0];show(yk (gH A R (aA A R))).bind _=_;rw[M];exact ai F.length_eq.symm
theorem ZX(a b:aN):KN a b=some (decide (pJ a b<0)):=by
 unfold KN;have main:=Aa (f:=J') [a.1,a.2.1,a.2.2.1,a.2.2.2.1,a.2.2.2.2] [b.1,b.2.1,b.2.2.1,b.2.2.2.1,b.2.2.2.2] aK (λk=>([a.1,a.2.1,a.2.2.1,a.2.2.2.1,a.2.2.2.2],[b.1,b.2.1,b.2.2.1,b.2.2.2.1,b.2.2.2.2],(k:Int),())) (.inl ()) (λq=>.inr (decide (q<0),())) ?_ ?_
 ·rw[lC main ?st]
  case st=>rfl
  have e:bY aK [a.1,a.2.1,a.2.2.1,a.2.2.2.1,a.2.2.2.2] [b.1,b.2.1,b.2.2.1,b.2.2.2.1,b.2.2.2.2]=pJ a b:=by grind[MD,aqm,bY]
  grind
 ·intro k hk D;generalize F:[a.1,a.2.1,a.2.2.1,a.2.2.2.1,a.2.2.2.2]=l at hk;generalize hm:[b.1,b.2.1,b.2.2.1,b.2.2.2.1,b.2.2.2.2]=m at D;have J:l.length=5:=by rw[<-F];rfl
  simp only[J',dY (show((k:Nat):Int)<5 by omega),cond_true,aI hk,aI D,aC (show k+1<=4611686018427387904 by omega),aS]
  by_cases e:l[k]=m[k]
  ·grind[aK]
  ·rw[dN e,aw3,cond_true,if_neg (λg=>e (ig.1 g))];congr 4;unfold aK;by_cases g:l[k]<m[k]
   ·grind
   ·rw[dN g,if_neg g];split<;>rfl
 ·grind[J']
abbrev cu:=aN×List Int
def jt(x y:cu):Bool:= !decide (pJ y.1 x.1<0)
theorem arf(a b:cu):(jt a b||jt b a)=true:=by
 unfold jt;have:=Ah.neg a.1 b.1;by_cases e:pJ b.1 a.1<0
 ·grind
 ·grind
theorem asf(a b c:cu)(h1:jt a b=true)(h2:jt b c=true):jt a c=true:=by
 unfold jt at h1 h2⊢;rw[ay6,decide_eq_false_iff_not]at h1 h2⊢;have D:=Ah.neg a.1 b.1;have F:=Ah.neg b.1 c.1;have J:=Ah.neg a.1 c.1;have:=Ah.tr a.1 b.1 c.1 (by omega) (by omega)
 omega
theorem aaz(l:List cu):List.merge l [] jt=l:=by simp
theorem aaA(l:List cu):List.merge [] l jt=l:=by simp
theorem asd(rc:List cu->Option (List cu))(x y:List cu)(ah:x.length+y.length<=999999999):∀(n i j:Nat) (acc:List cu),(x.length-i)+(y.length-j)=n->i<=x.length->j<=y.length->acc.length<=i+j->
  ae (oV rc) (x,y,(i:Int),(j:Int),acc,())=some (acc++List.merge (x.drop i) (y.drop j) jt,()):=by
 intro n
 induction n with
 |zero=>
  intro i j acc hn M N Z;have F:i=x.length:=by omega
  have L:j=y.length:=by omega
  subst F;subst L;refine bf ?_;simp only[oV,av8,decide_false,cond_false,ay8];rw[show List.merge ([]:List cu) [] jt=[] by rw[List.merge],aw5]
 |succ n D=>
  intro i j acc hn M N Z;have ci:=aS i;have O:=aS j;have U:∀{R:Type} (q:Option R),J (ab .i64 ((i+1:Nat):Int)) q=q:=λq=>aC (show i+1<=4611686018427387904 by omega)
  have Y:∀{R:Type} (q:Option R),J (ab .i64 ((j+1:Nat):Int)) q=q:=λq=>aC (show j+1<=4611686018427387904 by omega)
  by_cases h1:i<x.length
  ·by_cases h2:j<y.length
   ·rw[av6 h1,av6 h2,List.cons_merge_cons];rcases az9 (decide (pJ (y[j]).1 (x[i]).1<0))with g|g
    ·have hs:oV rc (x,y,(i:Int),(j:Int),acc,())=some (.inl (x,y,(i:Int),((j+1:Nat):Int),acc++[y[j]],())):=by
       simp only[oV,dY (show((i:Nat):Int)<(x.length:Int) by omega),dN (show¬((j:Nat):Int)=(y.length:Int) by omega),cond_true,cond_false,aI h1,aI h2,ZX,at0,g,av2,mZ (x:=y[j]) (show acc.length<=999999999 by omega),O,Y]
     rw[bd hs,D i (j+1) _ (by omega) M h2 (by rw[au5,ay7];omega),if_neg (show¬jt x[i] y[j]=true by unfold jt;rw[g];decide),<-av6 h1,aw9];rfl
    ·have hs:oV rc (x,y,(i:Int),(j:Int),acc,())=some (.inl (x,y,((i+1:Nat):Int),(j:Int),acc++[x[i]],())):=by
       simp (disch:=omega) only[K0,oV,ZX,g,ci,U]
     rw[bd hs,D (i+1) j _ (by omega) h1 N (by rw[au5,ay7];omega),if_pos (show jt x[i] y[j]=true by unfold jt;rw[g];rfl),<-av6 h2,aw9];rfl
   ·have L:j=y.length:=by omega
    have hs:oV rc (x,y,(i:Int),(j:Int),acc,())=some (.inl (x,y,((i+1:Nat):Int),(j:Int),acc++[x[i]],())):=by simp only[oV,dY (show((i:Nat):Int)<(x.length:Int) by omega),dY (show((j:Nat):Int)=(y.length:Int) by omega),cond_true,aI h1,mZ (x:=x[i]) (show acc.length<=999999999 by omega),ci,U]
    rw[bd hs,D (i+1) j _ (by omega) h1 N (by rw[au5,ay7];omega),av6 h1,L,ay8,aw9,aaz,aaz];rfl
  ·have F:i=x.length:=by omega
   have h2:j<y.length:=by omega
   have hs:oV rc (x,y,(i:Int),(j:Int),acc,())=some (.inl (x,y,(i:Int),((j+1:Nat):Int),acc++[y[j]],())):=by simp only[oV,dN (show¬((i:Nat):Int)<(x.length:Int) by omega),dY (show((j:Nat):Int)<(y.length:Int) by omega),dN (show¬((j:Nat):Int)=(y.length:Int) by omega),cond_true,cond_false,aI h2,mZ (x:=y[j]) (show acc.length<=999999999 by omega),O,Y]
   rw[bd hs,D i (j+1) _ (by omega) M h2 (by rw[au5,ay7];omega),av6 h2,F,ay8,aw9,aaA,aaA];rfl
theorem al6(f g:List cu×Unit->Option (List cu))(h:∀x,dy (f x) (g x))(x:List cu×Unit):dy (tF f x) (tF g x):=by unfold tF J9;refine dy.cond (dy.refl _) (dy.J (dy.J (dy.bind (h _) λa=>dy.J (dy.J (dy.bind (h _) λb=>dy.bind (dy.loop ?_ _) λc=>dy.refl _)))));rfl
theorem al9:∀(n:Nat) (x:List cu),x.length<=n->x.length<=999999999->∃o,gR tF (n+1) (x,())=some o/\o.Perm x/\o.Pairwise (λa b=>jt a b=true):=by
 intro n
 induction n with
 |zero=>
  intro x U _;have:x=[]:=az2.1 (by omega)
  subst this;exact⟨[],rfl,.refl _,List.Pairwise.nil⟩
 |succ n L=>
  intro x U hx;show∃o,J9 (λa0=>gR tF (n+1) (a0,())) x=some o/\_;unfold J9;by_cases h2:x.length<2
  ·rw[dY (show((x.length:Nat):Int)<2 by omega),cond_true]
   refine⟨x,rfl,.refl _,?_⟩
   match x,h2 with
   |[],_=>exact List.Pairwise.nil
   |[a],_=>exact aE6 _ _
  ·rw[dN (show¬((x.length:Nat):Int)<2 by omega),cond_false]
   have hm:av4 .i64 ((x.length:Int).tdiv 2)=((x.length/2:Nat):Int):=by
    rw[Int.tdiv_eq_ediv_of_nonneg (by omega),show((x.length:Nat):Int)/2=((x.length/2:Nat):Int) by omega]
    exact wrap_i64 (by omega)
   have t0:(0:Int).toNat=0:=rfl;rw[hm,ai (by decide),ai (by omega)]
   simp only[av0,t0,ax7,ax6];obtain⟨D,M,a2,a3⟩:=L (x.take (x.length/2)) (by rw[aw7];omega) (by rw[aw7];omega)
   obtain⟨F,N,J,O⟩:=L (x.drop (x.length/2)) (by rw[ay3];omega) (by rw[ay3];omega)
   have Y:=a2.length_eq;have Z:=J.length_eq;rw[aw7]at Y;rw[ay3]at Z;rw[M,at0,ai (by decide),ai (by omega),N,at0]
   have e:=asd (λa0=>gR tF (n+1) (a0,())) D F (by omega) _ 0 0 [] rfl (au2 _) (au2 _) (au2 _)
   rw[ax7,ax7,aB4]at e;refine⟨List.merge D F jt,?_,?_,?_⟩
   ·rw[lC e ?st]
    case st=>rfl
    rfl
   ·have p:=(List.merge_perm_append (le:=jt) (xs:=D) (ys:=F)).trans (a2.append J);rw[ax4]at p;exact p
   ·exact List.pairwise_merge asf arf D F a3 O
theorem asG(x:List cu)(F:x.length<=999999999):∃o,Q4 x=some o/\o.Perm x/\Mo (o.map (·.1)):=by obtain⟨o,J,L,M⟩:=al9 x.length x (at9 _) F;refine⟨o,abU (λf g D x r=>al6 f g (λx r=>D x r) x r) J,L,?_⟩;unfold Mo;rw[List.pairwise_map];refine M.imp λ{a b} h=>?_;unfold jt at h;rw[ay6,decide_eq_false_iff_not]at h;exact h
def kT:Int->Int->Int:=fF (λx y=>aK (x.natAbs:Int) (y.natAbs:Int)) aK
theorem Ab:eG kT:=(mc.on (λx:Int=>x.natAbs)).lex mc
theorem Zr{a b:Int}(h:kT a b=0):a=b:=ig.1 (o6 h).2
theorem aam{a b:Int}:aK a b<0<->a<b:=by grind[aK]
theorem Ac{a b:Int}:oz a b=true<->kT a b<0:=by
 have hu:kT a b=if aK a.natAbs b.natAbs=0 then aK a b else aK a.natAbs b.natAbs:=rfl
 unfold oz;rw[hu,az0,au0,decide_eq_true_eq,decide_eq_true_eq,decide_eq_true_eq];by_cases e:a.natAbs=b.natAbs
 ·rw[if_pos (ig.2 (by omega)),aam]
  omega
 ·rw[if_neg (λg=>e (by have:=ig.1 g;omega)),aam]
  omega
def oR(l:List Int):Prop:=l.Pairwise λx y=>kT x y<0
theorem Sr{x z:Int}:∀{l:List Int},z∈xn x l<->z=x\/z∈l
 |[]=>by show z∈[x]<->_;rw[aw0];exact⟨.inl,λh=>h.elim id (by simp)⟩
 |y::t=>by
  show z∈(if oz x y then x::y::t else if x=y then y::t else y::xn x t)<->_
  split
  ·grind
  ·split
   ·grind
   ·rw[aw2,Sr];constructor
    ·grind
    ·grind
theorem Ya{x:Int}:∀{l:List Int},oR l->oR (xn x l)
 |[],_=>aE6 _ _
 |y::t,h=>by
  obtain⟨h1,h2⟩:=List.pairwise_cons.1 h;show oR (if oz x y then x::y::t else if x=y then y::t else y::xn x t)
  by_cases e:oz x y=true
  ·rw[if_pos e];have e:=Ac.1 e;refine List.pairwise_cons.2 ⟨λz D=>?_,h⟩;rcases aw2.1 D with rfl|D
   ·omega
   ·have:=h1 z D;exact Ab.xW e (by omega)
  ·rw[if_neg e];by_cases g:x=y
   ·grind
   ·rw[if_neg g];have F:¬kT x y<0:=λq=>e (Ac.2 q);have J:¬kT x y=0:=λq=>g (Zr q);have L:=Ab.neg x y;refine List.pairwise_cons.2 ⟨λz D=>?_,Ya h2⟩;rcases Sr.1 D with rfl|D
    ·omega
    ·grind
theorem qm:∀(l:List Int),oR (bz l)/\∀z,z∈bz l<->z∈l
 |[]=>⟨List.Pairwise.nil,λz=>Iff.rfl⟩
 |x::t=>by obtain⟨h1,h2⟩:=qm t;refine⟨Ya h1,λz=>?_⟩;show z∈xn x (bz t)<->_;rw[Sr,h2,aw2]
theorem Md{l m:List Int}(h1:oR m)(h2:∀z,z∈m<->z∈l):m=bz l:=by obtain⟨a,b⟩:=qm l;exact Qn Ab h1 a λz=>(h2 z).trans (b z).symm
theorem amC{l m:List Int}(h:∀z,z∈l<->z∈m):bz l=bz m:=Md (qm l).1 λz=>((qm l).2 z).trans (h z)
theorem oR.nodup{l:List Int}(h:oR l):l.Nodup:=h.imp λ{a b} q e=>by rw[e,Ab.self]at q;exact absurd q (by simp)
theorem Eh{α:Type}[DecidableEq α]:∀{l m:List α},l.Nodup->(∀z∈l,z∈m)->l.length<=m.length
 |[],m,_,_=>au2 _
 |x::t,m,J,h=>by
  obtain⟨h1,h2⟩:=List.nodup_cons.1 J;have D:=h x aw4;have e:=List.length_erase_of_mem D;have hp:=List.length_pos_of_mem D;have:=Eh (m:=m.erase x) h2 (λz F=>(List.mem_erase_of_ne (λq=>h1 (by rw[<-q];exact F))).2 (h z (ax5 _ F)))
  rw[av1];omega
theorem LO(l:List Int):(bz l).length<=l.length:=Eh (qm l).1.nodup λz D=>((qm l).2 z).1 D
def eE(l:List Int):Prop:= ∀x∈l,-1000000<=x/\x<=1000000
theorem FH(c:List Int)(hc:c.length<=1000000)(x:Int):tY c x=some (c.any λy=>decide (y=x)):=by
 unfold tY;have main:=wo (f:=ET) c (λy=>decide (y=x)) (λk=>(c,x,k,())) (λ_=>.inr ()) (.inl ()) ?_ ?_ ?_
 ·rw[lC main ?st]
  case st=>rfl
  cases h:c.find? (λy=>decide (y=x))with
  |none=>grind
  |some y=>grind
 ·intro k hk hp;simp (disch:=omega) only[K0,ET,hp]
 ·intro k hk hp;simp (disch:=omega) only[K0,ET,hp]
 ·simp[ET]
theorem abo(x:Int)(D: -1000000<=x/\x<=1000000):wL x=some (x.natAbs:Int):=by
 unfold wL;by_cases h:x<0
 ·simp (disch:=omega) only[K0];grind
 ·grind
theorem beforeL_eq(a b:Int)(D: -1000000<=a/\a<=1000000)(F: -1000000<=b/\b<=1000000):Eo a b=some (oz a b):=by
 unfold Eo oz;simp only[abo a D,abo b F];by_cases h:a.natAbs<b.natAbs
 ·grind
 ·simp only[K0];by_cases e:a.natAbs=b.natAbs
  ·grind
  ·grind
theorem ar3(o out:List Int)(i:Nat)(N:i<o.length)(Y:eE o)(Z:eE out)(hl:out.length<=1000000):∀(k:Nat),k<=out.length->(∀j (h:j<out.length),k<=j->kT o[i] out[j]<0)->
  ∃j,j<=out.length/\ae zr (out,(i:Int),(k:Int),o,())=some (out,(i:Int),(j:Int),o,())/\ae tG (o,out,(i:Int),(k:Int),())=some (o,out,(i:Int),(j:Int),())/\
   (∀t (h:t<out.length),j<=t->kT o[i] out[t]<0)/\(∀h:0<j,∀h2:j-1<out.length,¬kT o[i] out[j-1]<0):=by
 intro k
 induction k with
 |zero=>
  intro hk L;refine⟨0,au2 _,bf ?_,bf ?_,L,λh=>absurd h (by omega)⟩
  ·simp only[zr,dN (show¬(0:Int)<((0:Nat):Int) by decide),cond_false]
  ·simp only[tG,dN (show¬(0:Int)<((0:Nat):Int) by decide),cond_false]
 |succ k ih=>
  intro hk L;have O:k<out.length:=hk;have F:((k+1:Nat):Int)-1=(k:Int):=by omega
  have M:∀{R:Type} (q:Option R),J (ab .i64 ((k:Nat):Int)) q=q:=λq=>aC (show k<=4611686018427387904 by omega)
  have D:=beforeL_eq o[i] out[k] (Y _ (at2 N)) (Z _ (at2 O));rcases az9 (oz o[i] out[k])with g|g
  ·rw[g]at D;have s1:zr (out,(i:Int),((k+1:Nat):Int),o,())=some (.inl (out,(i:Int),(k:Int),o,())):=by simp (disch:=omega) only[K0,zr,F,M,D,tG]
   have s2:tG (o,out,(i:Int),((k+1:Nat):Int),())=some (.inl (o,out,(i:Int),(k:Int),())):=by simp (disch:=omega) only[K0,tG,F,M,D]
   rw[bd s1,bd s2];refine ih (by omega) λj U ah=>?_
   by_cases q:j=k
   ·subst q;exact Ac.1 g
   ·exact L j U (by omega)
  ·rw[g]at D;refine⟨k+1,hk,bf ?_,bf ?_,L,λ_ _ q=>?_⟩
   ·simp (disch:=omega) only[K0,zr,F,M,D,tG]
   ·simp only[tG,dY (show(0:Int)<((k+1:Nat):Int) by omega),cond_true,aI N,F,M,aI O,D,at0,cond_false]
   ·have:=Ac.2 q;rw[show oz o[i] out[k]=true from this]at g;cases g
theorem atm{x:Int}{out:List Int}{j:Nat}(hs:oR out)(N:x∉out)(O:j<=out.length)(h1:∀t (h:t<out.length),j<=t->kT x out[t]<0)(h2:∀h:0<j,∀h2:j-1<out.length,¬kT x out[j-1]<0):
  oR (out.take j++[x]++out.drop j)/\∀z,z∈out.take j++[x]++out.drop j<->z=x\/z∈out:=by
 constructor
 ·unfold oR;rw[aF8,aF8];have hp:=hs;unfold oR at hp;rw[<-ax4 j out,aF8]at hp;obtain⟨p1,p2,p3⟩:=hp
  have U:∀a∈out.take j,kT a x<0:=by
   intro a J;obtain⟨t,F,rfl⟩:=aC7 J;rw[aw7]at F;rw[List.getElem_take];have M:0<j:=by omega
   have D:j-1<out.length:=by omega
   have q:=h2 M D;have Z:=Ab.neg x out[j-1];have q2:¬kT x out[j-1]=0:=λe=>N (by rw[Zr e];exact at2 D)
   by_cases e:t=j-1
   ·grind
   ·have:kT out[t] out[j-1]<0:=aD6.1 hs t (j-1) (by omega) D (by omega)
    exact Ab.xW this (by omega)
  have Y:∀b∈out.drop j,kT x b<0:=by intro b L;obtain⟨t,F,rfl⟩:=aC7 L;rw[ay3]at F;rw[aH4];exact h1 (j+t) (by omega) (by omega)
  grind
 ·intro z;rw[av3,av3,aw0]
  conv=>rhs;rw[<-ax4 j out,av3]
  grind
def ML(l:List Int)(k:Nat)(out:List Int):Prop:=oR out/\∀z,z∈out<->z∈l.take k
theorem an5(l:List Int)(O:eE l)(hn:l.length<=1000000)(k:Nat)(hk:k<l.length)(out:List Int)(h:ML l k out):
  ∃N,ML l (k+1) N/\zq (out,(k:Int),l,())=some (.inl (N,((k+1:Nat):Int),l,()))/\y5 (l,out,(k:Int),())=some (.inl (l,N,((k+1:Nat):Int),())):=by
 obtain⟨h1,h2⟩:=h;have ah:eE out:=λx M=>O x (aI6 ((h2 x).1 M));have hlen:out.length<=k:=by have:=Eh h1.nodup (λz hz=>(h2 z).1 hz);rw[aw7]at this;omega
 have c1:(0:Int)<=(k:Int)/\(k:Int)<(l.length:Int):=by omega
 have F:=aS k;have L:∀{R:Type} (q:Option R),J (ab .i64 ((k+1:Nat):Int)) q=q:=λq=>aC (show k+1<=4611686018427387904 by omega)
 have D:=FH out (by omega) l[k]
 have U:∀z,z∈l.take (k+1)<->z=l[k]\/z∈l.take k:=by intro z;rw[az5 hk,av3,aw0];exact Or.comm
 rcases az9 (out.any λy=>decide (y=l[k]))with g|g
 ·rw[g]at D;refine⟨out,⟨h1,λz=>?_⟩,?_,?_⟩
  ·rw[h2,U];obtain⟨y,hy,e⟩:=aH3.1 g;have e:=of_decide_eq_true e;exact⟨.inr,λq=>q.elim (λq=>by rw[q,<-e];exact(h2 y).1 hy) id⟩
  ·simp only[zq,dY (show((k:Nat):Int)<(l.length:Int) by omega),cond_true,ai c1,jl hk,D,at0,F,L]
  ·simp only[y5,dY (show((k:Nat):Int)<(l.length:Int) by omega),cond_true,aI hk,D,at0,F,L]
 ·rw[g]at D;obtain⟨j,hj,Z,e2,e3,e4⟩:=ar3 l out k hk O ah (by omega) out.length (at9 _) (λt h q=>by omega)
  have M:l[k]∉out:=λq=>by have:=aH6.1 g _ q;exact this (decide_eq_true rfl)
  obtain⟨i1,i2⟩:=atm h1 M hj e3 e4;have t0:(0:Int).toNat=0:=rfl;have k1:(0:Int)<=0/\(0:Int)<=(j:Int)/\(j:Int)<=(out.length:Int):=by omega
  have k2:(0:Int)<=(j:Int)/\(j:Int)<=(out.length:Int)/\(out.length:Int)<=(out.length:Int):=by omega
  have t1:(out.take j).length=j:=by grind
  have t2:(out.drop j).length=out.length-j:=by grind
  have k3:(out.take j).length<=1000000000:=by omega
  have k4:(out.take j).length+([l[k]]:List Int).length<=1000000000:=by rw[t1,ay7];omega
  have Y:(out.take j++[l[k]]).length+(out.drop j).length<=1000000000:=by rw[au5,t1,t2,ay7];omega
  refine⟨out.take j++[l[k]]++out.drop j,⟨i1,λz=>?_⟩,?_,?_⟩
  ·rw[i2,U,h2]
  ·simp only[zq,dY (show((k:Nat):Int)<(l.length:Int) by omega),cond_true,ai c1,jl hk,D,at0,cond_false,Z,ai k1,ai k2,F,L]
   simp only[av0,t0,ax7,ax6,ai k3,ai k4,ai Y]
  ·simp only[y5,dY (show((k:Nat):Int)<(l.length:Int) by omega),cond_true,aI hk,D,at0,cond_false,e2,ai k1,ai k2,F,L,av0,t0,ax7,ax6,ai k3,ai k4,ai Y]
theorem Zn(l:List Int)(D:eE l)(F:l.length<=1000000):∀(n k:Nat) (out:List Int),l.length-k=n->k<=l.length->ML l k out->
  ae zq (out,(k:Int),l,())=some (bz l,l,())/\ae y5 (l,out,(k:Int),())=some (bz l,()):=by
 intro n
 induction n with
 |zero=>
  intro k out J hk h;have e:k=l.length:=by omega
  subst e;have:out=bz l:=Md h.1 λz=>by rw[h.2,ax6]
  subst this;refine⟨bf ?_,bf ?_⟩
  ·simp[zq]
  ·simp[y5]
 |succ n L=>
  intro k out J hk h;obtain⟨M,h',s1,s2⟩:=an5 l D F k (by omega) out h
  rw[bd s1,bd s2];exact L (k+1) M (by omega) (by omega) h'
theorem ac6(l:List Int):ML l 0 []:=⟨List.Pairwise.nil,λz=>by rw[aG6]⟩
theorem norm_eq(l:List Int)(D:eE l)(F:l.length<=1000000):kE l=some (bz l,l):=by
 unfold kE;rw[lC (Zn l D F l.length 0 [] rfl (au2 _) (ac6 l)).1 ?st]
 case st=>rfl
 rfl
theorem aas(l:List Int)(D:eE l)(F:l.length<=1000000):En l=some (bz l):=by
 unfold En;rw[lC (Zn l D F l.length 0 [] rfl (au2 _) (ac6 l)).2 ?st]
 case st=>rfl
 rfl
def db(n:Nat)(T:aV)(w:Want):Int:=if bC T (λx=>decide (x=w))<0 then 0 else(n:Int)+bC T (λx=>decide (x=w))+1
theorem tJ(n:Nat)(T:aV)(w:Want):0<=db n T w/\db n T w<=(n:Int)+(T.length:Int):=by
 unfold db;rcases kD T (λx=>decide (x=w))with⟨_,q⟩|⟨j,D,_,q,_,_⟩
 ·omega
 ·omega
theorem abp(A:List aq)(R:List av)(T:aV)(hA:A.length<=360)(hT:T.length<=60000)(w:Want):oW (A,R,T) w=some (db A.length T w):=by
 unfold oW;have main:=jc (f:=Dq) T (λx=>decide (x=w)) (λk=>(k,A,R,T,w.1,w.2,())) (λk=>.inr (A.length+k+1,())) (.inl ()) ?_ ?_ ?_
 ·rw[lC main ?st]
  case st=>rfl
  unfold db;rcases kD T (λx=>decide (x=w))with⟨_,q⟩|⟨j,F,f,q,_,_⟩
  ·grind
  ·grind
 ·intro k hk hp;have hp:=of_decide_eq_false hp;have D:(decide ((T[k]).1=w.1)&&decide ((T[k]).2=w.2))=false:=by grind
  simp (disch:=omega) only[K0,Dq,D]
 ·intro k hk hp;have hp:=of_decide_eq_true hp;have D:(decide ((T[k]).1=w.1)&&decide ((T[k]).2=w.2))=true:=by rw[hp,dY rfl,dY rfl];rfl
  simp (disch:=omega) only[K0,Dq,D]
 ·simp[Dq]
def mj(A:List aq)(T:aV)(F:Nat->aN)(J:Nat->Nat->aN)(D:List Int)(ns:List av):List cu:=
 aL (λi (n:av)=>(F i,bz (D++fD A n))::aL (λk f=>[(J i k,bz (D++[db A.length T (n.1,f)]))]) n.2.2 0) ns 0
def mkNA(b:aN)(i:Nat):aN:=if b.1=4 then(b.1,b.2.1,(i:Int),b.2.2.2.1,b.2.2.2.2)else if b.1=7 then(b.1,b.2.1,b.2.2.1,(i:Int),b.2.2.2.2)else(b.1,(i:Int),b.2.2.1,b.2.2.2.1,b.2.2.2.2)
def mkNS(b:aN)(i:Nat):aN:=if b.1=4 then(b.1+1,b.2.1,(i:Int),b.2.2.2.1,b.2.2.2.2)else if b.1=7 then(b.1+1,b.2.1,b.2.2.1,(i:Int),b.2.2.2.2)else(b.1+1,(i:Int),b.2.2.1,b.2.2.2.1,b.2.2.2.2)
def mkNB(b:aN)(i k:Nat):aN:=if b.1=4 then((mkNS b i).1,(mkNS b i).2.1,(mkNS b i).2.2.1,(k:Int),(mkNS b i).2.2.2.2)else if b.1=7 then((mkNS b i).1,(mkNS b i).2.1,(mkNS b i).2.2.1,(mkNS b i).2.2.2.1,(k:Int))else((mkNS b i).1,(mkNS b i).2.1,(k:Int),(mkNS b i).2.2.2.1,(mkNS b i).2.2.2.2)
abbrev acn:=List av×List Int×Int×Int×List aq×List av×aV×Int×Int×Int×Int×Int×Int×Int×Int×Int×Int×List cu×Unit
abbrev aqE:=List av×List Int×Int×List aq×List av×aV×Int×Int×Int×Int×Int×List cu×Unit
theorem tR{a b:List Int}(D:eE a)(F:eE b):eE (a++b):=λx J=>(av3.1 J).elim (D x) (F x)
theorem E5(A:List aq)(hA:A.length<=360)(n:av):eE (fD A n):=λx D=>by have:=Y8 D;omega
theorem wI{x:Int}(h: -1000000<=x/\x<=1000000):eE [x]:=λy D=>by rw[aw0.1 D];exact h
theorem ara(f:acn->Option (acn⊕aqE))(hf:f=yF\/f=yw)(A:List aq)(hA:A.length<=360)(R:List av)(T:aV)(hT:T.length<=60000)(ns:List av)(i:Nat)(L:i<ns.length)(hn:(ns[i]).2.2.length<=4)
  (D:List Int) (ha:eE D) (hl:D.length<=10) (b:aN) (acc:List cu) (N:acc.length<=990000000):
  ae f (ns,D,(i:Int),0,A,R,T,b.1,b.2.1,b.2.2.1,b.2.2.2.1,b.2.2.2.2,(mkNS b i).1,(mkNS b i).2.1,(mkNS b i).2.2.1,(mkNS b i).2.2.2.1,(mkNS b i).2.2.2.2,acc,())=
   some (ns,D,(i:Int),A,R,T,b.1,b.2.1,b.2.2.1,b.2.2.2.1,b.2.2.2.2,acc++aL (λk f=>[(mkNB b i k,bz (D++[db A.length T ((ns[i]).1,f)]))]) (ns[i]).2.2 0,()):=by
 refine fQ (ns[i]).2.2 (λk f=>[(mkNB b i k,bz (D++[db A.length T ((ns[i]).1,f)]))]) 1 990000000 (λk acc=>(ns,D,(i:Int),(k:Int),A,R,T,b.1,b.2.1,b.2.2.1,b.2.2.2.1,b.2.2.2.2,(mkNS b i).1,(mkNS b i).2.1,(mkNS b i).2.2.1,(mkNS b i).2.2.2.1,(mkNS b i).2.2.2.2,acc,())) (λacc=>(ns,D,(i:Int),A,R,T,b.1,b.2.1,b.2.2.1,b.2.2.2.1,b.2.2.2.2,acc,())) (λk hk=>at9 _) ?_ ?_ acc N rfl
 ·intro k hk acc N;have O:=aS k;have U:∀{R:Type} (q:Option R),J (ab .i64 ((k+1:Nat):Int)) q=q:=λq=>aC (show k+1<=4611686018427387904 by omega)
  have Z:=abp A R T hA hT ((ns[i]).1,(ns[i]).2.2[k]);have hr:=tJ A.length T ((ns[i]).1,(ns[i]).2.2[k]);have Y:=norm_eq (D++[db A.length T ((ns[i]).1,(ns[i]).2.2[k])]) (tR ha (wI (by omega))) (by rw[au5,ay7];omega)
  have k1:D.length<=1000000000:=by omega
  have k2:∀y:Int,D.length+([y]:List Int).length<=1000000000:=λy=>by rw[ay7];omega
  have k3:∀y:cu,acc.length+([y]:List cu).length<=1000000000:=λy=>by rw[ay7];omega
  unfold mkNB;rcases hf with rfl|rfl
  ·simp only[yF,aI L,dY (show((k:Nat):Int)<((ns[i]).2.2.length:Int) by omega),cond_true,aI hk,Z,at0,ai k1,ai (k2 _),Y,ai (k3 _),O,U]
   grind
  ·simp only[yw,aI L,dY (show((k:Nat):Int)<((ns[i]).2.2.length:Int) by omega),cond_true,aI hk,Z,at0,ai k1,ai (k2 _),Y,ai (k3 _),O,U]
   by_cases M:b.1=4
   ·grind
   ·rw[dN M,cond_false,if_neg M];by_cases F:b.1=7
    ·rw[dY F,cond_true,if_pos F]
    ·rw[dN F,cond_false,if_neg F]
 ·intro acc;rcases hf with rfl|rfl
  ·simp only[yF,aI L,av8,decide_false,cond_false]
  ·simp only[yw,aI L,av8,decide_false,cond_false]
abbrev acm:=List av×List Int×Int×List aq×List av×aV×Int×Int×Int×Int×Int×List cu×Unit
theorem X8(A:List aq)(T:aV)(J:Nat->aN)(L:Nat->Nat->aN)(D:List Int)(ns:List av)(h:bZ ns):∀i (F:i<ns.length),((J i,bz (D++fD A ns[i]))::aL (λk f=>[(L i k,bz (D++[db A.length T ((ns[i]).1,f)]))]) (ns[i]).2.2 0).length<=5:=by intro i F;have:=(h.eF _ (at2 F)).2.2.1;rw[av1,rR];omega
theorem Ez(A:List aq)(T:aV)(F:Nat->aN)(J:Nat->Nat->aN)(D:List Int)(ns:List av)(h:bZ ns):(mj A T F J D ns).length<=40:=by
 have:=jA (e:=λi n=>(F i,bz (D++fD A n))::aL (λk f=>[(J i k,bz (D++[db A.length T (n.1,f)]))]) n.2.2 0) (m:=5) ns 0 (λj L=>by rw[ax2];exact X8 A T F J D ns h j L)
 have h2:=h.many;show(aL _ ns 0).length<=40;omega
theorem X9(f:acm->Option (acm⊕(List cu×Unit)))(hf:f=yE\/f=yv)(A:List aq)(hA:bR A)(R:List av)(T:aV)(hT:T.length<=60000)(ns:List av)(h:bZ ns)
  (F:List Int) (ha:eE F) (hl:F.length<=10) (b:aN) (hb:0<=b.1/\b.1<=100) (acc:List cu) (ar:acc.length<=980000000):
  ae f (ns,F,0,A,R,T,b.1,b.2.1,b.2.2.1,b.2.2.2.1,b.2.2.2.2,acc,())=some (acc++mj A T (mkNA b) (mkNB b) F ns,()):=by
 have hs:=hA.many;have hm:=h.many;refine fQ ns (λi (n:av)=>(mkNA b i,bz (F++fD A n))::aL (λk f=>[(mkNB b i k,bz (F++[db A.length T (n.1,f)]))]) n.2.2 0) 5 980000000 (λk acc=>(ns,F,(k:Int),A,R,T,b.1,b.2.1,b.2.2.1,b.2.2.2.1,b.2.2.2.2,acc,())) (λacc=>(acc,())) (X8 A T (mkNA b) (mkNB b) F ns h) ?_ ?_ acc ar rfl
 ·intro i O acc ar;have az:=h.eF _ (at2 O);have U:=aS i;have Y:∀{R:Type} (q:Option R),J (ab .i64 ((i+1:Nat):Int)) q=q:=λq=>aC (show i+1<=4611686018427387904 by omega)
  have an:=ao4 A hA (A,R,T) rfl ns[i] az.2.1;have a6:=EN A ns[i];have Z:=norm_eq (F++fD A ns[i]) (tR ha (E5 A hs _)) (by rw[au5];omega)
  have k0:ab .i64 (b.1+1):=ba (by omega)
  have k1:F.length<=1000000000:=by omega
  have k2:F.length+(fD A ns[i]).length<=1000000000:=by omega
  have k3:∀y:cu,acc.length+([y]:List cu).length<=1000000000:=λy=>by rw[ay7];omega
  have inner:=λg hg=>ara g hg A hs R T hT ns i O az.2.2.1 F ha hl b (acc++[(mkNA b i,bz (F++fD A ns[i]))]) (by rw[au5,ay7];omega)
  have aE:acc++((mkNA b i,bz (F++fD A ns[i]))::aL (λk f=>[(mkNB b i k,bz (F++[db A.length T ((ns[i]).1,f)]))]) (ns[i]).2.2 0)=(acc++[(mkNA b i,bz (F++fD A ns[i]))])++aL (λk f=>[(mkNB b i k,bz (F++[db A.length T ((ns[i]).1,f)]))]) (ns[i]).2.2 0:=by grind
  rw[aE];generalize a1:aL (λk f=>[(mkNB b i k,bz (F++[db A.length T ((ns[i]).1,f)]))]) (ns[i]).2.2 0=cc at inner;rcases hf with rfl|rfl
  ·have inner:=inner _ (.inl rfl);by_cases D:b.1=4
   ·have L:mkNA b i=(b.1,b.2.1,(i:Int),b.2.2.2.1,b.2.2.2.2):=by unfold mkNA;rw[if_pos D]
    have N:mkNS b i=(b.1+1,b.2.1,(i:Int),b.2.2.2.1,b.2.2.2.2):=by unfold mkNS;rw[if_pos D]
    rw[N,L]at inner;rw[L];simp only[yE,dY (show((i:Nat):Int)<(ns.length:Int) by omega),cond_true,ai k0,dY D,aI O,an,at0,ai k1,ai k2,Z,ai (k3 _),inner,U,Y]
   ·by_cases M:b.1=7
    ·have L:mkNA b i=(b.1,b.2.1,b.2.2.1,(i:Int),b.2.2.2.2):=by unfold mkNA;rw[if_neg D,if_pos M]
     have N:mkNS b i=(b.1+1,b.2.1,b.2.2.1,(i:Int),b.2.2.2.2):=by unfold mkNS;rw[if_neg D,if_pos M]
     rw[N,L]at inner;rw[L];simp only[yE,dY (show((i:Nat):Int)<(ns.length:Int) by omega),cond_true,cond_false,ai k0,dN D,dY M,aI O,an,at0,ai k1,ai k2,Z,ai (k3 _),inner,U,Y]
    ·have L:mkNA b i=(b.1,(i:Int),b.2.2.1,b.2.2.2.1,b.2.2.2.2):=by unfold mkNA;rw[if_neg D,if_neg M]
     have N:mkNS b i=(b.1+1,(i:Int),b.2.2.1,b.2.2.2.1,b.2.2.2.2):=by unfold mkNS;rw[if_neg D,if_neg M]
     rw[N,L]at inner;rw[L];simp only[yE,dY (show((i:Nat):Int)<(ns.length:Int) by omega),cond_true,cond_false,ai k0,dN D,dN M,aI O,an,at0,ai k1,ai k2,Z,ai (k3 _),inner,U,Y]
  ·have inner:=inner _ (.inr rfl);by_cases D:b.1=4
   ·have L:mkNA b i=(b.1,b.2.1,(i:Int),b.2.2.2.1,b.2.2.2.2):=by unfold mkNA;rw[if_pos D]
    have N:mkNS b i=(b.1+1,b.2.1,(i:Int),b.2.2.2.1,b.2.2.2.2):=by unfold mkNS;rw[if_pos D]
    rw[N,L]at inner;rw[L];simp only[yv,dY (show((i:Nat):Int)<(ns.length:Int) by omega),cond_true,ai k0,dY D,aI O,an,at0,ai k1,ai k2,Z,ai (k3 _),inner,U,Y]
   ·by_cases M:b.1=7
    ·have L:mkNA b i=(b.1,b.2.1,b.2.2.1,(i:Int),b.2.2.2.2):=by unfold mkNA;rw[if_neg D,if_pos M]
     have N:mkNS b i=(b.1+1,b.2.1,b.2.2.1,(i:Int),b.2.2.2.2):=by unfold mkNS;rw[if_neg D,if_pos M]
     rw[N,L]at inner;rw[L];simp only[yv,dY (show((i:Nat):Int)<(ns.length:Int) by omega),cond_true,cond_false,ai k0,dN D,dY M,aI O,an,at0,ai k1,ai k2,Z,ai (k3 _),inner,U,Y]
    ·have L:mkNA b i=(b.1,(i:Int),b.2.2.1,b.2.2.2.1,b.2.2.2.2):=by unfold mkNA;rw[if_neg D,if_neg M]
     have N:mkNS b i=(b.1+1,(i:Int),b.2.2.1,b.2.2.2.1,b.2.2.2.2):=by unfold mkNS;rw[if_neg D,if_neg M]
     rw[N,L]at inner;rw[L];simp only[yv,dY (show((i:Nat):Int)<(ns.length:Int) by omega),cond_true,cond_false,ai k0,dN D,dN M,aI O,an,at0,ai k1,ai k2,Z,ai (k3 _),inner,U,Y]
 ·intro acc;rcases hf with rfl|rfl
  ·simp only[yE,av8,decide_false,cond_false]
  ·simp only[yv,av8,decide_false,cond_false]
theorem aat(A:List aq)(hA:bR A)(R:List av)(T:aV)(hT:T.length<=60000)(ns:List av)(h:bZ ns)(D:List Int)(F:eE D)(M:D.length<=10)(b:aN)(L:0<=b.1/\b.1<=100)(acc:List cu)(J:acc.length<=980000000):
  Dc (A,R,T) ns b D acc=some (acc++mj A T (mkNA b) (mkNB b) D ns):=by
 unfold Dc;rw[X9 _ (.inl rfl) A hA R T hT ns h D F M b L acc J];rfl
theorem akq(A:List aq)(hA:bR A)(R:List av)(T:aV)(hT:T.length<=60000)(ns:List av)(h:bZ ns):CO (A,R,T) ns (1,0,0,0,0) []=some (mj A T (mkNA (1,0,0,0,0)) (mkNB (1,0,0,0,0)) [] ns):=by
 unfold CO;rw[lC (X9 _ (.inr rfl) A hA R T hT ns h [] (λx D=>(az1 D).elim) (au2 _) (1,0,0,0,0) (by simp) [] (au2 _)) ?st]
 case st=>rfl
 rfl
def neg(i:Int):Int:=0-(i+1)
theorem o7{x y:Int}(h: -1000000<=x/\x<=1000000)(h': -1000000<=y/\y<=1000000):eE [x,y]:=λz D=>by grind
theorem ap7(e:bN)(s:aa)(D:e.2.2.2.2.2.2.2.length<=1000):LB e s=some (bC e.2.2.2.2.2.2.2 λf=>decide (f.1=s)):=by
 unfold LB bC;have main:=jc (f:=El) e.2.2.2.2.2.2.2 (λf=>decide (f.1=s)) (λk=>(s,k,e.1,e.2.1,e.2.2.1,e.2.2.2.1,e.2.2.2.2.1,e.2.2.2.2.2.1,e.2.2.2.2.2.2.1,e.2.2.2.2.2.2.2,())) (λk=>.inr (k,())) (.inl ()) ?_ ?_ ?_
 ·grind
 ·intro k hk hp;have hp:=of_decide_eq_false hp;simp (disch:=omega) only[K0,El]
 ·intro k hk hp;have hp:=of_decide_eq_true hp;simp (disch:=omega) only[K0,El]
 ·simp[El]
def uv(A:List aq)(i:Nat)(s:aa):List cu:=aL (λk (y:aq)=>if decide (y.1.1=s)=true then[((3,(i:Int),((i+1+k:Nat):Int),0,0),bz [neg i,neg ((i+1+k:Nat):Int)])]else[]) (A.drop (i+1)) 0
def sy(A:List aq)(T:aV)(i t:Nat)(e:bN)(w:Want):List cu:=if decide (w.1=e.1)=true then(match iN e w.2 with
 |none=>[((6,(i:Int),(t:Int),0,0),[neg i,neg ((A.length:Int)+(t:Int))])]
 |some f=>mj A T (mkNA (7,(i:Int),(t:Int),0,0)) (mkNB (7,(i:Int),(t:Int),0,0)) [neg i,neg ((A.length:Int)+(t:Int))] f.2)else[]
def AG(A:List aq)(T:aV)(i:Nat)(e:bN):List cu:=aL (λt w=>sy A T i t e w) T 0
def Gn(A:List aq)(i:Nat)(bs:List av):List cu:=aL (λk (n:av)=>aL (λ_ y=>[((9,(i:Int),(k:Int),y,0),bz [neg i,neg y])]) (eU A n) 0) bs 0
def nj(A:List aq)(T:aV)(i:Nat)(e:bN):List cu:=((uv A i e.1++mj A T (mkNA (4,(i:Int),0,0,0)) (mkNB (4,(i:Int),0,0,0)) [neg i] e.2.2.2.2.2.2.1)++AG A T i e)++Gn A i e.2.2.2.2.2.1
theorem Zt(A:List aq)(i:Nat)(s:aa):(uv A i s).length<=A.length:=by
 have:=jA (e:=λk y=>if decide (y.1.1=s)=true then[((((3,i,(i+1+k:Nat),0,0),bz [neg i,neg (i+1+k:Nat)])):cu)]else[]) (m:=1) (A.drop (i+1)) 0 (by grind)
 rw[ay3]at this;show(aL _ _ 0).length<=_;omega
theorem ZI(A:List aq)(T:aV)(i t:Nat)(e:bN)(he:dM e)(w:Want):(sy A T i t e w).length<=40:=by
 unfold sy;split
 ·cases h:iN e w.2 with
  |none=>grind
  |some f=>exact Ez A T _ _ _ _ (he.pn (EH h))
 ·grind
theorem YP(A:List aq)(T:aV)(i:Nat)(e:bN)(he:dM e):(AG A T i e).length<=40*T.length:=jA T 0 (λj D=>ZI A T i _ e he _)
theorem aqu(A:List aq)(i:Nat)(bs:List av):(Gn A i bs).length<=A.length*bs.length:=jA bs 0 (λj h=>by rw[rR];exact qA _ _)
theorem Zs(A:List aq)(hA:A.length<=360)(T:aV)(i:Nat)(e:bN)(he:dM e):(nj A T i e).length<=1840+40*T.length:=by have h1:=Zt A i e.1;have h2:=Ez A T (mkNA (4,i,0,0,0)) (mkNB (4,i,0,0,0)) [neg i] _ he.qz;have D:=YP A T i e he;have F:=aqu A i e.2.2.2.2.2.1;have J:A.length*e.2.2.2.2.2.1.length<=360*4:=aE1 hA he.sB;unfold nj;simp only[au5];omega
theorem adj{acc:List cu}{x:cu}(h:acc.length<=999999999){R:Type}{q:Option R}:J (acc.length+([x]:List cu).length<=1000000000) q=q:=mZ h
theorem atj(A:List aq)(hA:A.length<=360)(R:List av)(T:aV)(i:Nat)(Y:i<A.length)(e:bN)(acc:List cu)(D:acc.length<=970000000):
  ae Di ((i:Int),(i:Int)+1,A,R,T,e.1,e.2.1,e.2.2.1,e.2.2.2.1,e.2.2.2.2.1,e.2.2.2.2.2.1,e.2.2.2.2.2.2.1,e.2.2.2.2.2.2.2,acc,())=
   some ((i:Int),A,R,T,e.1,e.2.1,e.2.2.1,e.2.2.2.1,e.2.2.2.2.1,e.2.2.2.2.2.1,e.2.2.2.2.2.2.1,e.2.2.2.2.2.2.2,acc++uv A i e.1,()):=by
 refine fQ (A.drop (i+1)) (λk (y:aq)=>if decide (y.1.1=e.1)=true then[((((3,(i:Int),((i+1+k:Nat):Int),0,0),bz [neg i,neg ((i+1+k:Nat):Int)])):cu)]else[]) 1 970000000
  (λk acc=>((i:Int),((i+1+k:Nat):Int),A,R,T,e.1,e.2.1,e.2.2.1,e.2.2.2.1,e.2.2.2.2.1,e.2.2.2.2.2.1,e.2.2.2.2.2.2.1,e.2.2.2.2.2.2.2,acc,()))
  (λacc=>((i:Int),A,R,T,e.1,e.2.1,e.2.2.1,e.2.2.2.1,e.2.2.2.2.1,e.2.2.2.2.2.1,e.2.2.2.2.2.2.1,e.2.2.2.2.2.2.2,acc,())) (λk h=>RN _ _) ?_ ?_ acc D rfl
 ·intro k hk acc D;rw[ay3]at hk;have O:i+1+k<A.length:=by omega
  have N:(A.drop (i+1))[k]'(by rw[ay3];exact hk)=A[i+1+k]:=aH4 ..
  have L:=aS (i+1+k);have M:∀{R:Type} (q:Option R),J (ab .i64 ((i+1+k+1:Nat):Int)) q=q:=λq=>aC (show i+1+k+1<=4611686018427387904 by omega)
  have c1:ab .i64 ((i:Int)+1):=ba (by omega)
  have c2:ab .i64 (0-((i:Int)+1)):=ba (by omega)
  have F:ab .i64 (0-((i+1+k+1:Nat):Int)):=ba (by omega)
  have U:=aas [0-((i:Int)+1),0-((i+1+k+1:Nat):Int)] (o7 (by omega) (by omega)) (by simp)
  rw[N];simp only[Di,dY (show((i+1+k:Nat):Int)<(A.length:Int) by omega),aI O,ai c1,ai c2,L,M,ai F,U,at0,adj (x:=((3,(i:Int),((i+1+k:Nat):Int),0,0),bz [0-((i:Int)+1),0-((i+1+k+1:Nat):Int)])) (show acc.length<=999999999 by omega)]
  by_cases q:(A[i+1+k]).1.1=e.1
  ·rw[dY q,cond_true,if_pos rfl];rfl
  ·grind
 ·grind[Di]
theorem ati(A:List aq)(hA:bR A)(R:List av)(T:aV)(hT:T.length<=57632)(i:Nat)(hi:i<A.length)(e:bN)(he:dM e)(acc:List cu)(M:acc.length<=971000000):
  ae yP ((i:Int),0,A,R,T,e.1,e.2.1,e.2.2.1,e.2.2.2.1,e.2.2.2.2.1,e.2.2.2.2.2.1,e.2.2.2.2.2.2.1,e.2.2.2.2.2.2.2,acc,())=
   some ((i:Int),A,R,T,e.1,e.2.1,e.2.2.1,e.2.2.2.1,e.2.2.2.2.1,e.2.2.2.2.2.1,e.2.2.2.2.2.2.1,e.2.2.2.2.2.2.2,acc++AG A T i e,()):=by
 have hs:=hA.many;have h4:=he.kJ
 refine fQ T (λt w=>sy A T i t e w) 40 971000000
  (λk acc=>((i:Int),(k:Int),A,R,T,e.1,e.2.1,e.2.2.1,e.2.2.2.1,e.2.2.2.2.1,e.2.2.2.2.2.1,e.2.2.2.2.2.2.1,e.2.2.2.2.2.2.2,acc,()))
  (λacc=>((i:Int),A,R,T,e.1,e.2.1,e.2.2.1,e.2.2.2.1,e.2.2.2.2.1,e.2.2.2.2.2.1,e.2.2.2.2.2.2.1,e.2.2.2.2.2.2.2,acc,())) (λk h=>ZI A T i k e he _) ?_ ?_ acc M rfl
 ·intro k hk acc M;have F:=aS k;have N:∀{R:Type} (q:Option R),J (ab .i64 ((k+1:Nat):Int)) q=q:=λq=>aC (show k+1<=4611686018427387904 by omega)
  have c1:ab .i64 ((i:Int)+1):=ba (by omega)
  have c2:ab .i64 (0-((i:Int)+1)):=ba (by omega)
  have O:ab .i64 ((A.length:Int)+(k:Int)):=ba (by omega)
  have U:ab .i64 ((A.length:Int)+(k:Int)+1):=ba (by omega)
  have Y:ab .i64 (0-((A.length:Int)+(k:Int)+1)):=ba (by omega)
  have hE:(e.1,e.2.1,e.2.2.1,e.2.2.2.1,e.2.2.2.2.1,e.2.2.2.2.2.1,e.2.2.2.2.2.2.1,e.2.2.2.2.2.2.2)=e:=rfl;have D:=ap7 e (T[k]).2 (by omega)
  unfold sy;by_cases q:(T[k]).1=e.1
  ·rw[dY q,if_pos rfl];unfold iN;rcases kD e.2.2.2.2.2.2.2 (λf=>decide (f.1=(T[k]).2))with⟨_,p⟩|⟨j,L,_,p,_,_⟩
   ·rw[p]at D;rw[p,if_pos (by decide)]
    simp (disch:=omega) only[K0,yP,D,F];rfl
   ·rw[p]at D;rw[p,if_neg (by omega),av0,au4 L]
    have ah:=he.pn (at2 L);have Z:=aat A hA R T (by omega) (e.2.2.2.2.2.2.2[j]).2 ah [0-((i:Int)+1),0-((A.length:Int)+(k:Int)+1)] (o7 (by omega) (by omega)) (by simp) (7,(i:Int),(k:Int),0,0) (by simp) acc (by omega)
    simp only[yP,dY (show((k:Nat):Int)<(T.length:Int) by omega),aI hk,dY q,ai c1,ai c2,ai O,ai U,ai Y,D,at0,aI L,Z,F,N]
    rfl
  ·rw[dN q,if_neg (by decide),aw5]
   simp only[yP,dY (show((k:Nat):Int)<(T.length:Int) by omega),cond_true,aI hk,dN q,aw3,F,N]
 ·intro acc;simp only[yP,av8,decide_false,cond_false]
theorem ath(A:List aq)(hA:bR A)(R:List av)(T:aV)(i:Nat)(hi:i<A.length)(e:bN)(he:dM e)(acc:List cu)(D:acc.length<=975000000):
  ae JG ((i:Int),0,A,R,T,e.1,e.2.1,e.2.2.1,e.2.2.2.1,e.2.2.2.2.1,e.2.2.2.2.2.1,e.2.2.2.2.2.2.1,e.2.2.2.2.2.2.2,acc,())=some (acc++Gn A i e.2.2.2.2.2.1,()):=by
 have hs:=hA.many;have h4:=he.sB
 refine fQ e.2.2.2.2.2.1 (λk (n:av)=>aL (λ_ y=>[((((9,(i:Int),(k:Int),y,0),bz [neg i,neg y])):cu)]) (eU A n) 0) 360 975000000
  (λk acc=>((i:Int),(k:Int),A,R,T,e.1,e.2.1,e.2.2.1,e.2.2.2.1,e.2.2.2.2.1,e.2.2.2.2.2.1,e.2.2.2.2.2.2.1,e.2.2.2.2.2.2.2,acc,())) (λacc=>(acc,())) (λk h=>by rw[rR];exact aw8 (qA _ _) hs) ?_ ?_ acc D rfl
 ·intro k hk acc D;have F:=aS k;have L:∀{R:Type} (q:Option R),J (ab .i64 ((k+1:Nat):Int)) q=q:=λq=>aC (show k+1<=4611686018427387904 by omega)
  have U:=acD A hA e.2.2.2.2.2.1[k] (he.Bf _ (at2 hk)).2.1;have an:=qA A e.2.2.2.2.2.1[k];have ar:=Li A hs e.2.2.2.2.2.1[k]
  have inner:=fQ (f:=JH) (v0:=((i:Int),(k:Int),eU A e.2.2.2.2.2.1[k],0,A,R,T,e.1,e.2.1,e.2.2.1,e.2.2.2.1,e.2.2.2.2.1,e.2.2.2.2.2.1,e.2.2.2.2.2.2.1,e.2.2.2.2.2.2.2,acc,())) (eU A e.2.2.2.2.2.1[k]) (λ_ y=>[((((9,(i:Int),(k:Int),y,0),bz [neg i,neg y])):cu)]) 1 980000000
   (λj acc=>((i:Int),(k:Int),eU A e.2.2.2.2.2.1[k],(j:Int),A,R,T,e.1,e.2.1,e.2.2.1,e.2.2.2.1,e.2.2.2.2.1,e.2.2.2.2.2.1,e.2.2.2.2.2.2.1,e.2.2.2.2.2.2.2,acc,())) (λacc=>((i:Int),(k:Int),A,R,T,e.1,e.2.1,e.2.2.1,e.2.2.2.1,e.2.2.2.2.1,e.2.2.2.2.2.1,e.2.2.2.2.2.2.1,e.2.2.2.2.2.2.2,acc,())) (λj M=>at9 _) ?_ ?_ acc (by omega) rfl
  ·simp only[JG,dY (show((k:Nat):Int)<(e.2.2.2.2.2.1.length:Int) by omega),cond_true,aI hk,U,at0,inner,F,L]
  ·intro j M acc D;have F:=aS j;have L:∀{R:Type} (q:Option R),J (ab .i64 ((j+1:Nat):Int)) q=q:=λq=>aC (show j+1<=4611686018427387904 by omega)
   have Z:0<=(eU A e.2.2.2.2.2.1[k])[j]/\(eU A e.2.2.2.2.2.1[k])[j]<360:=by obtain⟨z,hz,q,_⟩:=wN.1 (at2 M);rw[q];omega
   generalize ah:(eU A e.2.2.2.2.2.1[k])[j]=y at Z;have c1:ab .i64 ((i:Int)+1):=ba (by omega)
   have c2:ab .i64 (0-((i:Int)+1)):=ba (by omega)
   have N:ab .i64 (y+1):=ba (by omega)
   have O:ab .i64 (0-(y+1)):=ba (by omega)
   have Y:=aas [0-((i:Int)+1),0-(y+1)] (o7 (by omega) (by omega)) (by simp)
   simp only[JH,dY (show((j:Nat):Int)<((eU A e.2.2.2.2.2.1[k]).length:Int) by omega),aI M,ah,ai c1,ai c2,ai N,ai O,Y,at0,adj (x:=((9,(i:Int),(k:Int),y,0),bz [0-((i:Int)+1),0-(y+1)])) (show acc.length<=999999999 by omega),F,L]
   rfl
  ·intro acc;simp only[JH,av8,decide_false,cond_false]
 ·intro acc;simp only[JG,av8,decide_false,cond_false]
theorem ar9(A:List aq)(hA:bR A)(R:List av)(T:aV)(hT:T.length<=57632)(i:Nat)(D:i<A.length)(acc:List cu)(U:acc.length<=960000000):
  J0 (A,R,T) (i:Int) acc=some (acc++nj A T i (A[i]).1):=by
 have hs:=hA.many;have he:=hA.dp _ (at2 D);have M:=Zt A i (A[i]).1.1;have N:=Ez A T (mkNA (4,i,0,0,0)) (mkNB (4,i,0,0,0)) [neg i] _ he.qz;have O:=YP A T i _ he;have c1:ab .i64 (i+1):=ba (by omega)
 have c2:ab .i64 (0-(i+1)):=ba (by omega)
 unfold J0;show(ag A i).bind _=_;rw[aI D,ai c1];show(ae Di (i,i+1,A,R,T,(A[i]).1.1,(A[i]).1.2.1,(A[i]).1.2.2.1,(A[i]).1.2.2.2.1,(A[i]).1.2.2.2.2.1,(A[i]).1.2.2.2.2.2.1,(A[i]).1.2.2.2.2.2.2.1,(A[i]).1.2.2.2.2.2.2.2,acc,())).bind _=_;generalize(A[i]).1=e at he M N O;have L:=aat A hA R T (by omega) e.2.2.2.2.2.2.1 he.qz [neg i] (wI (by unfold neg;omega)) (by simp) (4,i,0,0,0) (by simp) (acc++uv A i e.1) (by grind)
 have h2:=ati A hA R T hT i D e he ((acc++uv A i e.1)++mj A T (mkNA (4,i,0,0,0)) (mkNB (4,i,0,0,0)) [neg i] e.2.2.2.2.2.2.1) (by grind)
 have J:=ath A hA R T i D e he (((acc++uv A i e.1)++mj A T (mkNA (4,i,0,0,0)) (mkNB (4,i,0,0,0)) [neg i] e.2.2.2.2.2.2.1)++AG A T i e) (by grind)
 have F:0-(i+1)=neg i:=rfl;rw[atj A hs R T i D e acc (by omega)]
 have c2:ab .i64 (neg i):=c2;simp only[ai c1,F,ai c2,L,at0,h2,J];unfold nj;simp only[aw9]
def iT(A:List aq)(R:List av)(T:aV):List cu:=mj A T (mkNA (1,0,0,0,0)) (mkNB (1,0,0,0,0)) [] R++aL (λi (y:aq)=>nj A T i y.1) A 0
theorem aoa(A:List aq)(hA:bR A)(R:List av)(T:aV)(hT:T.length<=57632)(acc:List cu)(D:acc.length<=40):
  ae Jv (0,A,R,T,acc,())=some (acc++aL (λi (y:aq)=>nj A T i y.1) A 0,()):=by
 have hs:=hA.many;refine fQ A (λi y=>nj A T i y.1) 2307120 40 (λk acc=>((k:Int),A,R,T,acc,())) (λacc=>(acc,())) (λk hk=>?_) ?_ ?_ acc D rfl
 ·have:=Zs A hs T k _ (hA.dp _ (at2 hk));omega
 ·intro k hk acc D;have F:=aS k;have L:∀{R:Type} (q:Option R),J (ab .i64 (k+1:Nat)) q=q:=λq=>aC (by omega)
  simp (disch:=omega) only[K0,Jv,ar9 A hA R T hT k hk acc (by omega)]
 ·simp[Jv]
theorem aph(A:List aq)(hA:bR A)(R:List av)(hR:bZ R)(T:aV)(hT:T.length<=57632):(iT A R T).length<=900000000:=by
 have hs:=hA.many;have h1:=Ez A T (mkNA (1,0,0,0,0)) (mkNB (1,0,0,0,0)) [] R hR;have h2:=jA (e:=λi y=>nj A T i y.1) (m:=2307120) A 0 (λj D=>by have:=Zs A hs T (0+j) _ (hA.dp _ (at2 D));omega)
 grind[iT]
theorem apK(A:List aq)(hA:bR A)(R:List av)(hR:bZ R)(T:aV)(hT:T.length<=57632):∃ls,Dr (A,R,T)=some ls/\ls.Perm (iT A R T)/\Mo (ls.map (·.1)):=by
 obtain⟨o,D,F,J⟩:=asG (iT A R T) (by have:=aph A hA R hR T hT;omega)
 refine⟨o,?_,F,J⟩;have h1:=Ez A T (mkNA (1,0,0,0,0)) (mkNB (1,0,0,0,0)) [] R hR;unfold Dr;show(CO (A,R,T) R (1,0,0,0,0) []).bind _=_;rw[akq A hA R T (by omega) R hR]
 simp only[aoa A hA R T hT _ h1,at0];show(Q4 (iT A R T)).bind _=_;rw[D];rfl
theorem Rh(A:List aq)(T:aV)(D:Nat->aN)(F:Nat->Nat->aN)(J:List Int)(ns:List av):(mj A T D F J ns).map (·.1)=qE D F ns:=by unfold mj qE;rw[tT];congr 1;funext i n;rw[List.map_cons,tT];rfl
theorem mk_1:mkNA (1,0,0,0,0)=(λ(i:Nat)=>((1,(i:Int),0,0,0):aN))/\mkNB (1,0,0,0,0)=(λ(i k:Nat)=>((2,(i:Int),(k:Int),0,0):aN)):=by grind[mkNA,mkNB,mkNS]
theorem mk_4(i:Int):mkNA (4,i,0,0,0)=(λ(k:Nat)=>((4,i,(k:Int),0,0):aN))/\mkNB (4,i,0,0,0)=(λ(k j:Nat)=>((5,i,(k:Int),(j:Int),0):aN)):=by grind[mkNA,mkNB,mkNS]
theorem mk_7(i t:Int):mkNA (7,i,t,0,0)=(λ(k:Nat)=>((7,i,t,(k:Int),0):aN))/\mkNB (7,i,t,0,0)=(λ(k j:Nat)=>((8,i,t,(k:Int),(j:Int)):aN)):=by
 refine⟨funext λk=>?_,funext λk=>funext λj=>?_⟩
 ·rfl
 ·rfl
theorem SJ{α β:Type}{e:Nat->α->List β}:∀(l m:List α) (k:Nat),aL e (l++m) k=aL e l k++aL e m (k+l.length)
 |[],m,k=>rfl
 |x::t,m,k=>by show e k x++aL e (t++m) (k+1)=(e k x++aL e t (k+1))++_;rw[SJ t m (k+1),aw9,av1,show k+(t.length+1)=k+1+t.length by omega]
theorem YT{α β:Type}{e:Nat->α->List β}(d:Nat):∀(l:List α) (k:Nat),aL e l (d+k)=aL (λj x=>e (d+j) x) l k
 |[],k=>rfl
 |x::t,k=>by show e (d+k) x++aL e t (d+k+1)=_;rw[show d+k+1=d+(k+1) by omega,YT d t (k+1)];rfl
theorem aqq{α β γ:Type}{e:Nat->α->List β}{g:β->List γ}:∀(l:List α) (k j:Nat),aL (λ_ y=>g y) (aL e l k) j=aL (λk x=>aL (λ_ y=>g y) (e k x) 0) l k:=by
 have F:∀l (k j),aL (λ_ y=>g y) l k=aL (λ_ y=>g y) l j:=by
  intro l
  induction l with
  |nil=>intro k j;rfl
  |cons x t D=>intro k j;show g x++aL _ t (k+1)=g x++aL _ t (j+1);rw[D (k+1) (j+1)]
 intro l
 induction l with
 |nil=>intro k j;rfl
 |cons x t D=>intro k j;show aL (λ_ y=>g y) (e k x++aL e t (k+1)) j=aL (λ_ y=>g y) (e k x) 0++aL _ t (k+1);rw[SJ,D,F (e k x) j 0]
theorem abc{α β:Type}{e:Nat->α->List β}:∀(l:List α) (k:Nat),(∀j (h:j<l.length),e (k+j) l[j]=[])->aL e l k=[]
 |[],k,_=>rfl
 |x::t,k,h=>by show e k x++aL e t (k+1)=[];rw[show e k x=[] from h 0 (Nat.zero_lt_succ _),abc t (k+1) (λj D=>by have:=h (j+1) (Nat.succ_lt_succ D);rw[show k+1+j=k+(j+1) by omega];exact this)];rfl
theorem aoc(A:List aq)(i:Nat)(J:i<A.length)(s:aa):(uv A i s).map (·.1)=AN A i s:=by
 have h0:A=A.take (i+1)++A.drop (i+1):=(ax4 _ _).symm;unfold uv AN kY;rw[tT,aqq]
 conv=>rhs;rw[h0,SJ]
 have D:(A.take (i+1)).length=i+1:=by grind
 rw[abc (A.take (i+1)) 0,D,ax2,YT (i+1) (A.drop (i+1+0)) 0]
 ·congr 1;funext k y;by_cases q:y.1.1=s
  ·simp (disch:=omega) only[K0];show _=(if decide (i<((i+1+k):Int))=true then _ else _)++[]
   simp (disch:=omega) only[K0];rfl
  ·simp (disch:=omega) only[K0];rfl
 ·intro j F;rw[D]at F;by_cases q:((A.take (i+1))[j]'(by omega)).1.1=s
  ·rw[dY q];show(if decide (i<((0+j):Int))=true then _ else _)++[]=[]
   grind
  ·rw[dN q];rfl
theorem aob(A:List aq)(T:aV)(i:Nat)(D:i<A.length)(e:bN):((nj A T i e).map (·.1)).Perm (nq A T i e):=by
 unfold nj;simp only[aw1];rw[aoc A i D,Rh,(mk_4 i).1,(mk_4 i).2]
 have h1:(AG A T i e).map (·.1)=n9 T i e:=by
  unfold AG n9;rw[tT];congr 1;funext t w;unfold sy uB;by_cases q:w.1=e.1
  ·rw[dY q,if_pos rfl,if_pos rfl];cases iN e w.2 with
   |none=>rfl
   |some f=>simp only[];rw[Rh,(mk_7 i t).1,(mk_7 i t).2]
  ·grind
 have h2:(Gn A i e.2.2.2.2.2.1).map (·.1)=NA A i e.2.2.2.2.2.1:=by unfold Gn NA;rw[tT];congr 1;funext k n;rw[tT];rfl
 rw[h1,h2];unfold nq pk pa;rw[List.perm_iff_count];intro z;simp only[List.count_append];omega
theorem LA(A:List aq)(R:List av)(T:aV):((iT A R T).map (·.1)).Perm (gH A R T):=by unfold iT gH;rw[aw1,Rh,tT];refine(List.Perm.refl _).append (ZT A 0 λj D=>?_);rw[ax2];exact aob A T j D _
theorem Sl(a b:Want):DQ a b=some (cW a b):=by grind[DQ,DE,KW]
theorem l7.nth{T:aV}(h:l7 T){i j:Nat}(D:i<j)(F:j<T.length):cW (T[i]'(by omega)) T[j]<0:=aD6.1 h i j (by omega) F D
theorem anD(T:aV)(hs:l7 T)(hT:T.length<=60000)(w:Want):∃i:Int,Iq T w=some (i,T.any λx=>decide (x=w))/\(T.any (λx=>decide (x=w))=true->i=bC T λx=>decide (x=w)):=by
 have main:=mT (f:=CD)
  (λv=>∃i j:Nat,v=(T,(T.length:Int),(i:Int),(j:Int),w.1,w.2,())/\i<=j/\j<=T.length/\(∀t (h:t<T.length),t<i->cW T[t] w<0)/\(∀t (h:t<T.length),j<=t->¬cW T[t] w<0))
  (λv=>(v.2.2.2.1-v.2.2.1).toNat)
  (λr=>∃i:Nat,r=(T,(T.length:Int),(i:Int),w.1,w.2,())/\i<=T.length/\(∀t (h:t<T.length),t<i->cW T[t] w<0)/\(∀t (h:t<T.length),i<=t->¬cW T[t] w<0)) ?_
  (T,(T.length:Int),0,(T.length:Int),w.1,w.2,()) ⟨0,T.length,rfl,au2 _,at9 _,λt h q=>absurd q (by omega),λt h q=>absurd q (by omega)⟩
 ·obtain⟨r,Y,i,rfl,Z,M,up⟩:=main;unfold Iq;rw[Y,at0];by_cases h:i<T.length
  ·simp only[dY (show((i:Nat):Int)<(T.length:Int) by omega),cond_true,aI h,Sl,at0]
   by_cases e:cW T[i] w=0
   ·have L:=KH e;have F:(T.any λx=>decide (x=w))=true:=aH3.2 ⟨T[i],at2 h,decide_eq_true L⟩;refine⟨(i:Int),by rw[F];show some ((i:Int),decide (cW T[i] w=0))=_;rw[dY e],λ_=>?_⟩
    rcases kD T (λx=>decide (x=w))with⟨q,_⟩|⟨j,D,_,q,p,_⟩
    ·rw[F]at q;cases q
    ·rw[q];have p:=of_decide_eq_true p;have O:cW T[j] w=0:=by rw[p];exact kC.self w
     rcases aG2 i j with d|d|d
     ·have:=hs.nth d D;rw[p]at this;omega
     ·rw[d]
     ·have:=hs.nth d h;rw[L]at this;omega
   ·have F:(T.any λx=>decide (x=w))=false:=by
      rw[aH6];intro x N q;obtain⟨j,D,rfl⟩:=aC7 N;have q:=of_decide_eq_true q;have O:cW T[j] w=0:=by rw[q];exact kC.self w
      rcases aG2 i j with d|d|d
      ·have:=hs.nth d D;rw[q]at this;exact up i h (at9 _) this
      ·subst d;exact e O
      ·have:=M j D d;omega
    refine⟨(i:Int),by rw[F];show some ((i:Int),decide (cW T[i] w=0))=_;rw[dN e],λq=>by rw[F]at q;cases q⟩
  ·have F:(T.any λx=>decide (x=w))=false:=by
     rw[aH6];intro x N q;obtain⟨j,D,rfl⟩:=aC7 N;have q:=of_decide_eq_true q;have O:cW T[j] w=0:=by rw[q];exact kC.self w
     have:=M j D (by omega)
     omega
   refine⟨(i:Int),?_,λq=>by rw[F]at q;cases q⟩
   simp only[dN (show¬((i:Nat):Int)<(T.length:Int) by omega),cond_false]
   rw[F]
 ·rintro v ⟨i,j,rfl,ah,D,M,up⟩;by_cases d:i<j
  ·have c1:ab .i64 ((i:Int)+(j:Int)):=ba (by omega)
   have hm:(i+j)/2<T.length:=by omega
   have U:∀{R:Type} (q:Option R),J (ab .i64 (((i+j)/2+1:Nat):Int)) q=q:=λq=>aC (show(i+j)/2+1<=4611686018427387904 by omega)
   have hc:=aS ((i+j)/2);have L:(w.1,w.2)=w:=rfl;by_cases g:cW T[(i+j)/2] w<0
   ·refine .inl ⟨(T,(T.length:Int),(((i+j)/2+1:Nat):Int),(j:Int),w.1,w.2,()),?_,⟨(i+j)/2+1,j,rfl,by omega,D,λt h q=>?_,up⟩,?_⟩
    ·simp only[CD,dY (show(i:Int)<(j:Int) by omega),cond_true,ai c1,ai (show(0:Int)<=1 by decide),An i j (by omega),aI hm,L,Sl,at0,dY g,hc,U]
    ·by_cases e:t=(i+j)/2
     ·subst e;exact g
     ·exact kC.xW (hs.nth (show t<(i+j)/2 by omega) hm) (by omega)
    ·show((j:Int)-(((i+j)/2+1:Nat):Int)).toNat<((j:Int)-(i:Int)).toNat;omega
   ·refine .inl ⟨(T,(T.length:Int),(i:Int),(((i+j)/2:Nat):Int),w.1,w.2,()),?_,⟨i,(i+j)/2,rfl,by omega,by omega,M,λt h q=>?_⟩,?_⟩
    ·simp only[CD,dY (show(i:Int)<(j:Int) by omega),cond_true,ai c1,ai (show(0:Int)<=1 by decide),An i j (by omega),aI hm,L,Sl,at0,dN g,cond_false]
    ·by_cases e:t=(i+j)/2
     ·subst e;exact g
     ·intro z;have:=hs.nth (show(i+j)/2<t by omega) h
      exact g (kC.xW this (by omega))
    ·show((((i+j)/2:Nat):Int)-(i:Int)).toNat<((j:Int)-(i:Int)).toNat;omega
  ·have e:i=j:=by omega
   subst e;refine .inr ⟨(T,(T.length:Int),(i:Int),w.1,w.2,()),?_,i,rfl,D,M,up⟩;simp only[CD,av8,decide_false,cond_false]
theorem var_eq(c:qT)(hs:l7 c.2.2)(hT:c.2.2.length<=60000)(L:c.1.length<=360)(w:Want):tD c w=some (db c.1.length c.2.2 w):=by
 unfold tD db;obtain⟨i,F,D⟩:=anD c.2.2 hs hT w;rw[F];rcases kD c.2.2 (λx=>decide (x=w))with⟨q,p⟩|⟨j,J,_,p,_,q⟩
 ·grind
 ·have D:=D q;rw[p]at D;rw[p];subst D;have c1:ab .i64 (c.1.length+j):=ba (by omega)
  simp (disch:=omega) only[K0,q]
theorem abJ{l:List Int}(h:eE l):Ns l=true:=by unfold Ns;rw[ax0];intro x D;obtain⟨a,b⟩:=h x D;rw[dY a,dY b];rfl
theorem uf(l:List Int)(h:eE l)(D:l.length<=1000000):mP l=some (bz l,l):=by unfold mP;rw[abJ h,dY D];rfl
theorem Zx(s:List aN)(hs:s.length<=100000000)(v:aN):nN s v=some (s.any λx=>decide (x=v)):=by
 unfold nN P';have main:=jc (f:=CU) s (λx=>decide (x=v)) (λk=>(s,s.length,k,v.1,v.2.1,v.2.2.1,v.2.2.2.1,v.2.2.2.2,())) (λk=>.inr (k,())) (.inl ()) ?_ ?_ ?_
 ·rw[lC main ?st]
  case st=>rfl
  have F:=pb s (λx=>decide (x=v)) inferInstance;rw[<-F];unfold bC;cases s.findIdx? (λx=>decide (x=v))<;>rfl
 ·intro k hk hp;have hp:=of_decide_eq_false hp;have D:(decide (v.1=(s[k]).1)&&(decide (v.2.1=(s[k]).2.1)&&(decide (v.2.2.1=(s[k]).2.2.1)&&(decide (v.2.2.2.1=(s[k]).2.2.2.1)&&decide (v.2.2.2.2=(s[k]).2.2.2.2)))))=false:=by grind
  simp (disch:=omega) only[K0,CU,D]
 ·intro k hk hp;have hp:=of_decide_eq_true hp;have D:(decide (v.1=(s[k]).1)&&(decide (v.2.1=(s[k]).2.1)&&(decide (v.2.2.1=(s[k]).2.2.1)&&(decide (v.2.2.2.1=(s[k]).2.2.2.1)&&decide (v.2.2.2.2=(s[k]).2.2.2.2)))))=true:=by grind
  simp (disch:=omega) only[K0,CU,D]
 ·simp[CU]
theorem acj(s:List aN)(v:aN):(s.any λx=>decide (x=v))=decide (v∈s):=by grind
theorem Ri{D:Nat->aN}{F:Nat->Nat->aN}{ns:List av}{f:aN}(h:f∈qE D F ns):(∃i,f=D i)\/∃i k,f=F i k:=by
 obtain⟨i,J,h⟩:=dK.1 h;rcases aw2.1 h with h|h
 ·grind
 ·obtain⟨k,hk,h⟩:=dK.1 h;exact .inr ⟨i,k,aw0.1 h⟩
theorem XW{i:Nat}{e:bN}{f:aN}(h:f∈pa i e):(f.1=4\/f.1=5)/\f.2.1=(i:Int):=by
 rcases Ri h with⟨k,rfl⟩|⟨k,j,rfl⟩
 ·grind
 ·grind
theorem YH{A:List aq}{i:Nat}{e:bN}{f:aN}(h:f∈pk A i e):(f.1=3\/f.1=9)/\f.2.1=(i:Int):=by
 rcases av3.1 h with h|h
 ·obtain⟨k,hk,h⟩:=dK.1 h;split at h
  ·grind
  ·grind
 ·obtain⟨k,hk,h⟩:=dK.1 h;obtain⟨j,D,h⟩:=dK.1 h;rw[aw0.1 h];exact⟨.inr rfl,rfl⟩
theorem YO{T:aV}{i:Nat}{e:bN}{f:aN}(h:f∈n9 T i e):(f.1=6\/f.1=7\/f.1=8)/\f.2.1=(i:Int):=by
 obtain⟨t,D,h⟩:=dK.1 h;unfold uB at h;split at h
 ·cases g:iN e (T[t]).2 with
  |none=>grind
  |some x=>
   rw[g]at h;rcases Ri h with⟨k,rfl⟩|⟨k,j,rfl⟩
   ·grind
   ·grind
 ·grind
theorem Fm{A:List aq}{R:List av}{T:aV}{f:aN}(h:f∈gH A R T):(f.1=1\/f.1=2)\/∃i,∃D:i<A.length,f.2.1=(i:Int)/\(((f.1=4\/f.1=5)/\f∈pa i (A[i]).1)\/((f.1=3\/f.1=9)/\f∈pk A i (A[i]).1)\/((f.1=6\/f.1=7\/f.1=8)/\f∈n9 T i (A[i]).1)):=by
 rcases av3.1 h with h|h
 ·rcases Ri h with⟨k,rfl⟩|⟨k,j,rfl⟩
  ·omega
  ·omega
 ·obtain⟨i,D,h⟩:=dK.1 h;refine .inr ⟨i,D,?_⟩;rcases av3.1 h with h|h
  ·rcases av3.1 h with h|h
   ·exact⟨(XW h).2,.inl ⟨(XW h).1,h⟩⟩
   ·exact⟨(YH h).2,.inr (.inl ⟨(YH h).1,h⟩)⟩
  ·exact⟨(YO h).2,.inr (.inr ⟨(YO h).1,h⟩)⟩
theorem api{A:List aq}{R:List av}{T:aV}{f:aN}{i:Nat}(D:i<A.length)(h:f∈nq A T i (A[i]).1):f∈gH A R T:=av3.2 (.inr (dK.2 ⟨i,D,h⟩))
theorem Z4(A:List aq)(hA:bR A)(R:List av)(hR:bZ R)(hT:(aA A R).length<=400)(f:aN):l9 (bA A R) f=some (decide (f∈gH A R (aA A R))):=by
 have hs:=hA.many;obtain⟨M,g1,g2,_⟩:=aaW A hA R hR hT;have hlen:=aac A hA R hR (aA A R) (by omega)
 have hmul:(2000+40*(aA A R).length)*A.length<=18000*360:=aE1 (by omega) hs
 have an:=g2.length_eq
 have ah:nN M f=some (decide (f∈gH A R (aA A R))):=by
  rw[Zx M (by omega),acj]
  congr 1;by_cases h:f∈gH A R (aA A R)
  ·rw[dY h,dY (g2.mem_iff.2 h)]
  ·rw[dN h,dN (λq=>h (g2.mem_iff.1 q))]
 have N:(bA A R).1.length=A.length:=by show(A.map bw).length=_;rw[au1]
 have L:(∀q:f∈gH A R (aA A R),False)->decide (f∈gH A R (aA A R))=false:=λq=>dN (λh=>q h) _;unfold l9;by_cases U:f.1<1
 ·rw[dY U,cond_true,L];intro h;rcases Fm h with h|⟨i,F,_,h⟩<;>omega
 rw[dN U,cond_false];by_cases Z:9<f.1
 ·rw[dY Z,cond_true,L];intro h;rcases Fm h with h|⟨i,F,_,h⟩<;>omega
 rw[dN Z,cond_false];by_cases k1:f.1=1
 ·grind
 rw[dN k1,cond_false];by_cases k2:f.1=2
 ·rw[dY k2,cond_true,g1,at0,ah];rfl
 rw[dN k2,cond_false];by_cases n0:f.2.1<0
 ·rw[dY n0,cond_true,L];intro h;rcases Fm h with h|⟨i,F,_,h⟩<;>omega
 rw[dN n0,cond_false];by_cases n1:(A.length:Int)<=f.2.1
 ·rw[dY (by rw[N];exact n1),cond_true,L]
  intro h;rcases Fm h with h|⟨i,F,_,h⟩<;>omega
 rw[dN (by rw[N];exact n1),cond_false]
 obtain⟨i,F⟩:∃i:Nat,f.2.1=(i:Int):=⟨f.2.1.toNat,by omega⟩
 have J:i<A.length:=by omega
 have he:=hA.dp _ (at2 J);have O:=LQ A hs (aA A R) (by omega) i (A[i]).1 he
 unfold nq at O;simp only[au5]at O
 have same:∀{P:Prop} (s:List aN),s.length<=100000000->(f∈s->f∈nq A (aA A R) i (A[i]).1)->(f∈gH A R (aA A R)->f∈s)->nN s f=some (decide (f∈gH A R (aA A R))):=by
  intro P s h1 h2 h3;rw[Zx s h1,acj];congr 1;by_cases h:f∈gH A R (aA A R)
  ·rw[dY h,dY (h3 h)]
  ·rw[dN h,dN (λq=>h (api J (h2 q)))]
 have D:f∈gH A R (aA A R)->(((f.1=4\/f.1=5)/\f∈pa i (A[i]).1)\/((f.1=3\/f.1=9)/\f∈pk A i (A[i]).1)\/((f.1=6\/f.1=7\/f.1=8)/\f∈n9 (aA A R) i (A[i]).1)):=by
  intro h;rcases Fm h with h|⟨j,hj,e,h⟩
  ·omega
  ·have:j=i:=by omega
   subst this;exact h
 have s1:=same (P:=True) (pa i (A[i]).1) (by omega) (λq=>av3.2 (.inl (av3.2 (.inl q))))
 have s2:=same (P:=True) (pk A i (A[i]).1) (by omega) (λq=>av3.2 (.inl (av3.2 (.inr q))))
 have s3:=same (P:=True) (n9 (aA A R) i (A[i]).1) (by omega) (λq=>av3.2 (.inr q))
 have q1:=Y9 A hA (bA A R) rfl i J;have q2:=aak A hA (bA A R) rfl i J;have q3:yA (bA A R) (i:Int)=some (n9 (aA A R) i (A[i]).1):=aaU A hA (bA A R) rfl (show(aA A R).length<=60000 by omega) i J
 rw[F];by_cases k4:f.1=4
 ·rw[dY k4,cond_true,q1,at0,s1 (λh=>by rcases D h with h|h|h<;>first|exact h.2|(exfalso;omega))];rfl
 rw[dN k4,cond_false];by_cases Y:f.1=5
 ·rw[dY Y,cond_true,q1,at0,s1 (λh=>by rcases D h with h|h|h<;>first|exact h.2|(exfalso;omega))];rfl
 rw[dN Y,cond_false];by_cases k3:f.1=3
 ·rw[dY k3,cond_true,q2,at0,s2 (λh=>by rcases D h with h|h|h<;>first|(exfalso;omega)|exact h.2)];rfl
 rw[dN k3,cond_false];by_cases kk:f.1=9
 ·rw[dY kk,cond_true,q2,at0,s2 (λh=>by rcases D h with h|h|h<;>first|(exfalso;omega)|exact h.2)];rfl
 rw[dN kk,cond_false,q3,at0,s3 (λh=>by rcases D h with h|h|h<;>first|(exfalso;omega)|exact h.2)];rfl
theorem Ey{A:List aq}{T:aV}{J:Nat->aN}{L:Nat->Nat->aN}{D:List Int}{ns:List av}{l:cu}(h:l∈mj A T J L D ns):
  ∃i,∃F:i<ns.length,l=(J i,bz (D++fD A ns[i]))\/∃k,∃hk:k<(ns[i]).2.2.length,l=(L i k,bz (D++[db A.length T ((ns[i]).1,(ns[i]).2.2[k])])):=by
 obtain⟨i,F,h⟩:=dK.1 h;refine⟨i,F,?_⟩;rcases aw2.1 h with h|h
 ·grind
 ·obtain⟨k,hk,h⟩:=dK.1 h;exact .inr ⟨k,hk,aw0.1 h⟩
theorem tZ(A:List aq)(R:List av):(bA A R).1=A.map bw:=rfl
theorem ab3(A:List aq)(R:List av):(bA A R).2.1=R.map aX:=rfl
theorem at8(A:List aq)(R:List av):(bA A R).2.2=aA A R:=rfl
theorem AR{ns:List av}{k:Nat}(h:k<ns.length){R:Type}(f:ep->Option R):(ag (ns.map aX) (k:Int)).bind f=f (aX ns[k]):=by rw[aI (l:=ns.map aX) (by grind),ax8]
theorem S5(A:List aq)(hA:bR A)(R:List av)(hT:(aA A R).length<=400)(w:Want):tD (bA A R) w=some (db A.length (aA A R) w):=by
 have hs:=hA.many;have:=var_eq (bA A R) (QB _) (show(aA A R).length<=60000 by omega) (by rw[tZ,au1];exact hs) w
 rw[tZ,au1]at this;exact this
theorem Tv(A:List aq)(hA:bR A)(R:List av)(hT:(aA A R).length<=400)(n:av)(k:Nat)(hk:k<n.2.2.length):yN (bA A R) (aX n) (k:Int)=some (db A.length (aA A R) (n.1,n.2.2[k])):=by unfold yN;show(ag n.2.2 k).bind _=_;rw[aI hk];show(tD (bA A R) (n.1,n.2.2[k])).bind _=_;rw[S5 A hA R hT];rfl
theorem aaV(A:List aq)(hA:bR A)(R:List av)(i t:Nat)(D:i<A.length)(L:t<(aA A R).length)(fd:fk)(hf:iN (A[i]).1 ((aA A R)[t]).2=some fd)(q a b:Int):CZ (bA A R) (q,(i:Int),(t:Int),a,b)=some (ff fd):=by
 have he:=hA.dp _ (at2 D);have M:=he.kJ;unfold CZ;simp only[tZ,qY D];show(ag (aA A R) t).bind _=_;rw[aI L]
 have F:tA (bw A[i]).1 ((aA A R)[t]).2=some (bC (A[i]).1.2.2.2.2.2.2.2 (λf=>decide (f.1=((aA A R)[t]).2))):=by
  rw[Tx _ _ (by show(((A[i]).1.2.2.2.2.2.2.2.map ff).length)<=1000;rw[au1];omega)]
  show some (bC ((A[i]).1.2.2.2.2.2.2.2.map ff) _)=_;rw[aaH];rfl
 rw[F];unfold iN at hf;rcases kD (A[i]).1.2.2.2.2.2.2.2 (λf=>decide (f.1=((aA A R)[t]).2))with⟨_,p⟩|⟨j,J,_,p,_,_⟩
 ·grind
 ·simp only[K0,p,au4 J]at hf;rw[p];show(ag ((A[i]).1.2.2.2.2.2.2.2.map ff) j).bind _=_;rw[aI (by grind),ax8,Option.some.inj hf]
theorem aaC(A:List aq)(hA:A.length<=360)(i:Nat)(D:i<A.length):eE [neg i]:=wI (by unfold neg;omega)
theorem apJ{x y:Int}(h:x.natAbs<y.natAbs):bz [x,y]=[x,y]:=by refine(Md (l:=[x,y]) ?_ λz=>Iff.rfl).symm;refine List.pairwise_cons.2 ⟨λz D=>?_,aE6 _ _⟩;rw[aw0.1 D];exact Ac.1 (by unfold oz;rw[dY h];rfl)
theorem aqx{a b:List Int}:∀z,z∈a++b<->z∈b++a:=by grind
section
variable (A:List aq) (hA:bR A) (R:List av) (hR:bZ R) (hT:(aA A R).length<=400)
include hA
theorem cl1(hR:bZ R)(i:Nat)(D:i<R.length)(L:l9 (bA A R) (1,(i:Int),0,0,0)=some true):fP (bA A R) (1,(i:Int),0,0,0)=some (bz ([]++fD A R[i]),true):=by
 have hs:=hA.many;have hm:=hR.many;have F:=hR.eF _ (at2 D);have c1:ab .i64 (i+1):=ba (by omega)
 have c2:ab .i64 (0-(i+1)):=ba (by omega)
 have J:=Y6 A hA (bA A R) rfl R[i] F.2.1;have M:=EN A R[i];unfold fP;rw[L,at0,av2,cond_false,aB4];dsimp only;rw[ai c1,ai c2,dY (show(1:Int)=1 from rfl),cond_true,ab3,AR D,J,at0,uf _ (E5 A hs R[i]) (by omega),at0]
theorem cl2(hR:bZ R)(hT:(aA A R).length<=400)(i:Nat)(D:i<R.length)(k:Nat)(hk:k<(R[i]).2.2.length)(J:l9 (bA A R) (2,(i:Int),(k:Int),0,0)=some true):fP (bA A R) (2,(i:Int),(k:Int),0,0)=some (bz ([]++[db A.length (aA A R) ((R[i]).1,(R[i]).2.2[k])]),true):=by
 have hm:=hR.many;have c1:ab .i64 (i+1):=ba (by omega)
 have c2:ab .i64 (0-(i+1)):=ba (by omega)
 have F:bz ([]++[db A.length (aA A R) ((R[i]).1,(R[i]).2.2[k])])=[db A.length (aA A R) ((R[i]).1,(R[i]).2.2[k])]:=rfl;rw[F];unfold fP;rw[J,at0,av2,cond_false];dsimp only;rw[ai c1,ai c2,dN (show¬(2:Int)=1 by decide),cond_false,dY (show(2:Int)=2 from rfl),cond_true,ab3,AR D,Tv A hA R hT R[i] k hk,at0]
theorem cl3(i:Nat)(M:i<A.length)(j:Nat)(N:j<A.length)(L:l9 (bA A R) (3,(i:Int),(j:Int),0,0)=some true):fP (bA A R) (3,(i:Int),(j:Int),0,0)=some (bz [neg i,neg j],true):=by
 have hs:=hA.many;have c1:ab .i64 (i+1):=ba (by omega)
 have c2:ab .i64 (neg i):=ba (by unfold neg;omega)
 have D:ab .i64 (j+1):=ba (by omega)
 have F:ab .i64 (neg j):=ba (by unfold neg;omega)
 have J:∀x:Int,0-(x+1)=neg x:=λx=>by unfold neg;rfl
 unfold fP;rw[L,at0,av2,cond_false];simp only[J];rw[ai c1,ai c2,dN (show¬(3:Int)=1 by decide),cond_false,dN (show¬(3:Int)=2 by decide),cond_false,decide_true,cond_true,ai D,ai F,uf [neg i,neg j] (o7 (by grind) (by grind)) (by simp),at0]
theorem cl9(i:Nat)(M:i<A.length)(k:Nat)(y:Int)(N:0<=y/\y<360)(L:l9 (bA A R) (9,(i:Int),(k:Int),y,0)=some true):fP (bA A R) (9,(i:Int),(k:Int),y,0)=some (bz [neg i,neg y],true):=by
 have hs:=hA.many;have c1:ab .i64 (i+1):=ba (by omega)
 have c2:ab .i64 (neg i):=ba (by unfold neg;omega)
 have D:ab .i64 (y+1):=ba (by omega)
 have F:ab .i64 (neg y):=ba (by unfold neg;omega)
 have J:∀x:Int,0-(x+1)=neg x:=λx=>by unfold neg;rfl
 unfold fP;rw[L,at0,av2,cond_false];simp only[J];rw[ai c1,ai c2,dN (show¬(9:Int)=1 by decide),cond_false,dN (show¬(9:Int)=2 by decide),cond_false,dN (show¬(9:Int)=3 by decide),cond_false,dN (show¬(9:Int)=4 by decide),cond_false,dN (show¬(9:Int)=5 by decide),cond_false,decide_true,cond_true,ai D,ai F,uf [neg i,neg y] (o7 (by grind) (by grind)) (by simp),at0]
theorem cl4(i:Nat)(D:i<A.length)(k:Nat)(hk:k<(A[i]).1.2.2.2.2.2.2.1.length)(O:l9 (bA A R) (4,(i:Int),(k:Int),0,0)=some true):fP (bA A R) (4,(i:Int),(k:Int),0,0)=some (bz ([neg i]++fD A (A[i]).1.2.2.2.2.2.2.1[k]),true):=by
 have hs:=hA.many;have he:=hA.dp _ (at2 D);have c1:ab .i64 (i+1):=ba (by omega)
 have c2:ab .i64 (neg i):=ba (by unfold neg;omega)
 have F:∀x:Int,0-(x+1)=neg x:=λx=>by unfold neg;rfl
 have M:=he.eF _ (at2 hk);have N:=Y6 A hA (bA A R) rfl (A[i]).1.2.2.2.2.2.2.1[k] M.2.1;have U:=EN A (A[i]).1.2.2.2.2.2.2.1[k];have L:(bw A[i]).1.2.2.2.2.2.2.1=(A[i]).1.2.2.2.2.2.2.1.map aX:=Eq.trans rfl rfl;have k1:(fD A (A[i]).1.2.2.2.2.2.2.1[k]).length+[neg i].length<=1000000000:=by grind
 have J:=uf (fD A (A[i]).1.2.2.2.2.2.2.1[k]++[neg i]) (tR (E5 A hs _) (aaC A hs i D)) (by grind)
 rw[amC aqx];unfold fP;rw[O,at0,av2,cond_false];simp only[F];rw[ai c1,ai c2,dN (show¬(4:Int)=1 by decide),cond_false,dN (show¬(4:Int)=2 by decide),cond_false,dN (show¬(4:Int)=3 by decide),cond_false,decide_true,cond_true,tZ,qY D,L,AR hk,N,at0,ai k1,J,at0]
theorem cl5(hT:(aA A R).length<=400)(i:Nat)(D:i<A.length)(k:Nat)(hk:k<(A[i]).1.2.2.2.2.2.2.1.length)(j:Nat)(L:j<((A[i]).1.2.2.2.2.2.2.1[k]).2.2.length)(N:l9 (bA A R) (5,(i:Int),(k:Int),(j:Int),0)=some true):
  fP (bA A R) (5,(i:Int),(k:Int),(j:Int),0)=some (bz ([neg i]++[db A.length (aA A R) (((A[i]).1.2.2.2.2.2.2.1[k]).1,((A[i]).1.2.2.2.2.2.2.1[k]).2.2[j])]),true):=by
 have hs:=hA.many;have he:=hA.dp _ (at2 D);have c1:ab .i64 (i+1):=ba (by omega)
 have c2:ab .i64 (neg i):=ba (by unfold neg;omega)
 have J:∀x:Int,0-(x+1)=neg x:=λx=>by unfold neg;rfl
 have M:(bw A[i]).1.2.2.2.2.2.2.1=(A[i]).1.2.2.2.2.2.2.1.map aX:=Eq.trans rfl rfl;have O:∀w,eE [db A.length (aA A R) w]:=λw=>wI (by have:=tJ A.length (aA A R) w;omega)
 have F:=uf ([neg i]++[db A.length (aA A R) (((A[i]).1.2.2.2.2.2.2.1[k]).1,((A[i]).1.2.2.2.2.2.2.1[k]).2.2[j])]) (tR (aaC A hs i D) (O _)) (by simp)
 rw[List.singleton_append]at F⊢;unfold fP;rw[N,at0,av2,cond_false];simp only[J];rw[ai c1,ai c2,dN (show¬(5:Int)=1 by decide),cond_false,dN (show¬(5:Int)=2 by decide),cond_false,dN (show¬(5:Int)=3 by decide),cond_false,dN (show¬(5:Int)=4 by decide),cond_false,decide_true,cond_true,tZ,qY D,M,AR hk,Tv A hA R hT _ j L,at0,F,at0]
theorem cl6(hT:(aA A R).length<=400)(i:Nat)(U:i<A.length)(t:Nat)(Y:t<(aA A R).length)(O:l9 (bA A R) (6,(i:Int),(t:Int),0,0)=some true):
  fP (bA A R) (6,(i:Int),(t:Int),0,0)=some ([neg i,neg ((A.length:Int)+(t:Int))],true):=by
 have hs:=hA.many;have c1:ab .i64 (i+1):=ba (by omega)
 have c2:ab .i64 (neg i):=ba (by unfold neg;omega)
 have L:∀x:Int,0-(x+1)=neg x:=λx=>by unfold neg;rfl
 have D:ab .i64 (A.length+t):=ba (by omega)
 have F:ab .i64 (A.length+t+1):=ba (by omega)
 have J:ab .i64 (neg (A.length+t)):=ba (by grind)
 have M:eE [neg i,neg (A.length+t)]:=o7 (by grind) (by grind)
 have N:bz [neg i,neg (A.length+t)]=[neg i,neg (A.length+t)]:=apJ (by grind)
 unfold fP;rw[O,at0,av2,cond_false];simp only[L];rw[ai c1,ai c2,dN (show¬(6:Int)=1 by decide),cond_false,dN (show¬(6:Int)=2 by decide),cond_false,dN (show¬(6:Int)=3 by decide),cond_false,dN (show¬(6:Int)=4 by decide),cond_false,dN (show¬(6:Int)=5 by decide),cond_false,dN (show¬(6:Int)=9 by decide),cond_false,tZ,au1,ai D,ai F,ai J,dN (show¬(6:Int)=7 by decide),cond_false,dN (show¬(6:Int)=8 by decide),cond_false,uf _ M (by simp),at0,N]
theorem cl7(hT:(aA A R).length<=400)(i:Nat)(D:i<A.length)(t:Nat)(ht:t<(aA A R).length)(fd:fk)(hf:iN (A[i]).1 ((aA A R)[t]).2=some fd)(k:Nat)(hk:k<fd.2.length)(ah:l9 (bA A R) (7,(i:Int),(t:Int),(k:Int),0)=some true):
  fP (bA A R) (7,(i:Int),(t:Int),(k:Int),0)=some (bz ([neg i,neg ((A.length:Int)+(t:Int))]++fD A fd.2[k]),true):=by
 have hs:=hA.many;have he:=hA.dp _ (at2 D);have c1:ab .i64 (i+1):=ba (by omega)
 have c2:ab .i64 (neg i):=ba (by unfold neg;omega)
 have M:∀x:Int,0-(x+1)=neg x:=λx=>by unfold neg;rfl
 have F:ab .i64 (A.length+t):=ba (by omega)
 have J:ab .i64 (A.length+t+1):=ba (by omega)
 have L:ab .i64 (neg (A.length+t)):=ba (by grind)
 have N:eE [neg i,neg (A.length+t)]:=o7 (by grind) (by grind)
 have Y:=(he.pn (EH hf)).eF _ (at2 hk);have Z:=aqT A hA (bA A R) rfl (fd.2[k]) Y.2.1;have an:=EN A (fd.2[k]);have U:(ff fd).2=fd.2.map aX:=Eq.trans rfl rfl;have k1:[neg i,neg (A.length+t)].length+(fD A fd.2[k]).length<=1000000000:=by grind
 have O:=uf ([neg i,neg (A.length+t)]++fD A fd.2[k]) (tR N (E5 A hs _)) (by grind)
 unfold fP;rw[ah,at0,av2,cond_false];simp only[M];rw[ai c1,ai c2,dN (show¬(7:Int)=1 by decide),cond_false,dN (show¬(7:Int)=2 by decide),cond_false,dN (show¬(7:Int)=3 by decide),cond_false,dN (show¬(7:Int)=4 by decide),cond_false,dN (show¬(7:Int)=5 by decide),cond_false,dN (show¬(7:Int)=9 by decide),cond_false,tZ,au1,ai F,ai J,ai L,decide_true,cond_true,aaV A hA R i t D ht fd hf,at0,U,AR hk,Z,at0,ai k1,O,at0]
theorem cl8(hT:(aA A R).length<=400)(i:Nat)(O:i<A.length)(t:Nat)(Z:t<(aA A R).length)(fd:fk)(hf:iN (A[i]).1 ((aA A R)[t]).2=some fd)(k:Nat)(hk:k<fd.2.length)(j:Nat)(U:j<(fd.2[k]).2.2.length)(ah:l9 (bA A R) (8,(i:Int),(t:Int),(k:Int),(j:Int))=some true):
  fP (bA A R) (8,(i:Int),(t:Int),(k:Int),(j:Int))=some (bz ([neg i,neg ((A.length:Int)+(t:Int))]++[db A.length (aA A R) ((fd.2[k]).1,(fd.2[k]).2.2[j])]),true):=by
 have hs:=hA.many;have c1:ab .i64 (i+1):=ba (by omega)
 have c2:ab .i64 (neg i):=ba (by unfold neg;omega)
 have L:∀x:Int,0-(x+1)=neg x:=λx=>by unfold neg;rfl
 have D:ab .i64 (A.length+t):=ba (by omega)
 have F:ab .i64 (A.length+t+1):=ba (by omega)
 have J:ab .i64 (neg (A.length+t)):=ba (by grind)
 have M:eE [neg i,neg (A.length+t)]:=o7 (by grind) (by grind)
 have Y:(ff fd).2=fd.2.map aX:=Eq.trans rfl rfl;have an:∀w,eE [db A.length (aA A R) w]:=λw=>wI (by have:=tJ A.length (aA A R) w;omega)
 have k1:∀y:Int,[neg i,neg (A.length+t)].length+[y].length<=1000000000:=λy=>by simp only[K0];omega
 have N:=uf ([neg i,neg (A.length+t)]++[db A.length (aA A R) ((fd.2[k]).1,(fd.2[k]).2.2[j])]) (tR M (an _)) (by simp)
 unfold fP;rw[ah,at0,av2,cond_false];simp only[L];rw[ai c1,ai c2,dN (show¬(8:Int)=1 by decide),cond_false,dN (show¬(8:Int)=2 by decide),cond_false,dN (show¬(8:Int)=3 by decide),cond_false,dN (show¬(8:Int)=4 by decide),cond_false,dN (show¬(8:Int)=5 by decide),cond_false,dN (show¬(8:Int)=9 by decide),cond_false,tZ,au1,ai D,ai F,ai J,dN (show¬(8:Int)=7 by decide),cond_false,decide_true,cond_true,aaV A hA R i t O Z fd hf,at0,Y,AR hk,Tv A hA R hT _ j U,at0,ai (k1 _),N,at0]
end
theorem Yl(A:List aq)(hA:bR A)(R:List av)(hR:bZ R)(hT:(aA A R).length<=400)(l:cu)(h:l∈iT A R (aA A R)):fP (bA A R) l.1=some (l.2,true):=by
 have F:l9 (bA A R) l.1=some true:=by rw[Z4 A hA R hR hT,dY];exact(LA A R (aA A R)).mem_iff.1 (ax1.2 ⟨l,h,rfl⟩)
 unfold iT at h;rcases av3.1 h with h|h
 ·rw[mk_1.1,mk_1.2]at h;obtain⟨i,D,h⟩:=Ey h;rcases h with rfl|⟨k,hk,rfl⟩
  ·exact cl1 A hA R hR i D F
  ·exact cl2 A hA R hR hT i D k hk F
 ·obtain⟨i,D,h⟩:=dK.1 h;unfold nj at h;rcases av3.1 h with h|h
  ·rcases av3.1 h with h|h
   ·rcases av3.1 h with h|h
    ·obtain⟨k,hk,h⟩:=dK.1 h;rw[ay3]at hk;split at h
     ·have h:=aw0.1 h;subst h;exact cl3 A hA R i D (i+1+k) (by omega) F
     ·grind
    ·rw[(mk_4 i).1,(mk_4 i).2]at h;obtain⟨k,hk,h⟩:=Ey h;rcases h with rfl|⟨j,J,rfl⟩
     ·exact cl4 A hA R i D k hk F
     ·exact cl5 A hA R hT i D k hk j J F
   ·obtain⟨t,L,h⟩:=dK.1 h;unfold sy at h;split at h
    ·cases hf:iN (A[i]).1 ((aA A R)[t]).2 with
     |none=>rw[hf]at h;have h:=aw0.1 h;subst h;exact cl6 A hA R hT i D t L F
     |some fd=>
      rw[hf]at h;simp only[]at h;rw[(mk_7 i t).1,(mk_7 i t).2]at h;obtain⟨k,hk,h⟩:=Ey h;rcases h with rfl|⟨j,J,rfl⟩
      ·exact cl7 A hA R hT i D t L fd hf k hk F
      ·exact cl8 A hA R hT i D t L fd hf k hk j J F
    ·cases h
  ·obtain⟨k,hk,h⟩:=dK.1 h;obtain⟨j,J,h⟩:=dK.1 h;have h:=aw0.1 h;have M:0<=(eU A (A[i]).1.2.2.2.2.2.1[k])[j]/\(eU A (A[i]).1.2.2.2.2.2.1[k])[j]<360:=by have hs:=hA.many;obtain⟨z,N,q,_⟩:=wN.1 (at2 J);rw[q];omega
   subst h;exact cl9 A hA R i D k _ M F
theorem aoK(A:List aq)(hA:bR A)(R:List av)(hR:bZ R)(hT:(aA A R).length<=400)(f:aN)(h:f∉gH A R (aA A R)):fP (bA A R) f=some ([],false):=by unfold fP;rw[Z4 A hA R hR hT,dN h];rfl
theorem apg(A:List aq)(hA:A.length<=360)(R:List av)(hT:(aA A R).length<=400)(l:cu)(N:l∈iT A R (aA A R)):l.2.length<=1000/\eE l.2:=by
 have lN:∀{m:List Int},eE m->eE (bz m):=λ{m} h x J=>h x (((qm m).2 x).1 J);have an:∀i:Nat,i<=1000->eE [neg i]:=λi h=>wI (by unfold neg;omega)
 have F:∀(O:Nat->aN) (U:Nat->Nat->aN) (D:List Int) (ns:List av),D.length<=10->eE D->l∈mj A (aA A R) O U D ns->l.2.length<=1000/\eE l.2:=by
  intro O U D ns ar L hq;obtain⟨i,Y,q⟩:=Ey hq;rcases q with rfl|⟨k,hk,rfl⟩
  ·have:=LO (D++fD A ns[i]);have h2:=EN A ns[i];rw[au5]at this;exact⟨by show(bz (D++fD A ns[i])).length<=_;omega,lN (tR L (E5 A hA _))⟩
  ·have:=LO (D++[db A.length (aA A R) ((ns[i]).1,(ns[i]).2.2[k])]);have hr:=tJ A.length (aA A R) ((ns[i]).1,(ns[i]).2.2[k]);rw[au5,ay7]at this;exact⟨by show(bz _).length<=_;omega,lN (tR L (wI (by omega)))⟩
 unfold iT at N;rcases av3.1 N with q|q
 ·exact F _ _ _ _ (au2 _) (λx J=>(az1 J).elim) q
 ·obtain⟨i,Y,q⟩:=dK.1 q;unfold nj at q;rcases av3.1 q with q|q
  ·rcases av3.1 q with q|q
   ·rcases av3.1 q with q|q
    ·obtain⟨k,hk,q⟩:=dK.1 q;rw[ay3]at hk;split at q
     ·rw[aw0.1 q];exact⟨aw8 (LO _) (by simp),lN (o7 (by unfold neg;omega) (by unfold neg;omega))⟩
     ·cases q
    ·exact F _ _ _ _ (by simp) (an i (by omega)) q
   ·obtain⟨t,ht,q⟩:=dK.1 q;have M:eE [neg i,neg ((A.length:Int)+(t:Int))]:=o7 (by unfold neg;omega) (by unfold neg;omega)
    unfold sy at q;split at q
    ·cases hf:iN (A[i]).1 ((aA A R)[t]).2 with
     |none=>rw[hf]at q;rw[aw0.1 q];exact⟨(by decide:2<=1000),M⟩
     |some fd=>rw[hf]at q;exact F _ _ _ _ (by simp) M q
    ·cases q
  ·obtain⟨k,hk,q⟩:=dK.1 q;obtain⟨j,Z,q⟩:=dK.1 q;obtain⟨z,hz,e,_⟩:=wN.1 (at2 Z);rw[aw0.1 q];exact⟨aw8 (LO _) (by simp),lN (o7 (by unfold neg;omega) (by rw[e];unfold neg;omega))⟩
theorem YK{V R α S:Type}{f:V->Option (V⊕R)}{v0:V}(l:List α)(g:S->α->S)(st:Nat->S->V)(out:S->R)(I:Nat->S->Prop)(D:S)(F:st 0 D=v0)(h0:I 0 D)
 (h1:∀k (hk:k<l.length) s,I k s->f (st k s)=some (.inl (st (k+1) (g s l[k])))/\I (k+1) (g s l[k]))
 (h2:∀s,I l.length s->f (st l.length s)=some (.inr (out s))):ae f v0=some (out (l.foldl g D)):=(Ft l g I st out h1 h2 D h0 F).1
abbrev fU:=List UInt8×List UInt8
def uH(l:List fU)(t:fU):List fU:=if t∈l then l else l++[t]
def Ga(s:List UInt8)(l:List fU)(D:List (List UInt8)):List fU:=D.foldl (λl f=>uH l (s,f)) l
def MX(l:List fU)(ns:List av):List fU:=ns.foldl (λl n=>Ga n.1 (uH l (n.1,[])) n.2.2) l
theorem aay(l:List fU)(t x:fU):x∈uH l t<->x∈l\/x=t:=by
 unfold uH;split
 ·exact⟨.inl,λh=>h.elim id λe=>e▸ ‹t∈l›⟩
 ·rw[av3,aw0]
theorem YJ{l:List fU}{t:fU}(h:l.Nodup):(uH l t).Nodup:=by
 unfold uH;split
 ·exact h
 ·exact nS h ‹_›
def isC(A:List aq)(s:List UInt8)(i:Int):Bool:=decide (0<=i)&&(match A[i.toNat]? with|some y=>decide (y.1.1=s)|none=>false)
def aca(A:List aq)(choice:List Int)(s:List UInt8):Int:=(choice.find? (isC A s)).getD (-1)
def Tf(e:bN)(f:List UInt8):List av:=if f=[]then e.2.2.2.2.2.2.1 else((iN e f).map (·.2)).getD []
def F8(A:List aq)(choice:List Int)(t:fU):List av:=match A[(aca A choice t.1).toNat]? with|some y=>if aca A choice t.1<0 then[]else Tf y.1 t.2|none=>[]
theorem ZH(s:List UInt8)(x:fU):∀(D:List (List UInt8)) (l:List fU),x∈Ga s l D<->x∈l\/∃f∈D,x=(s,f)
 |[],l=>⟨.inl,λh=>h.elim id λ⟨_,h,_⟩=>(az1 h).elim⟩
 |f::t,l=>by
  show x∈Ga s (uH l (s,f)) t<->_;rw[ZH s x t,aay];constructor
  ·grind
  ·grind
def B8(x:fU)(n:av):Prop:=x.1=n.1/\(x.2=[]\/x.2∈n.2.2)
theorem Lg(x:fU):∀(ns:List av) (l:List fU),x∈MX l ns<->x∈l\/∃n∈ns,B8 x n
 |[],l=>⟨.inl,λh=>h.elim id λ⟨_,h,_⟩=>(az1 h).elim⟩
 |n::t,l=>by
  show x∈MX (Ga n.1 (uH l (n.1,[])) n.2.2) t<->_;rw[Lg x t,ZH,aay];constructor
  ·rintro(((h|h)|⟨g,h,e⟩)|⟨g,h,e⟩)
   ·grind
   ·exact .inr ⟨n,.head _,by rw[h];exact⟨rfl,.inl rfl⟩⟩
   ·exact .inr ⟨n,.head _,by rw[e];exact⟨rfl,.inr h⟩⟩
   ·grind
  ·rintro(h|⟨g,h,e⟩)
   ·grind
   ·rcases aw2.1 h with q|q
    ·subst q;rcases e with⟨F,D|D⟩
     ·grind
     ·grind
    ·grind
theorem Yg(s:List UInt8):∀(D:List (List UInt8)) (l:List fU),l.Nodup->(Ga s l D).Nodup
 |[],l,h=>h
 |f::t,l,h=>Yg s t _ (YJ h)
theorem X':∀(ns:List av) (l:List fU),l.Nodup->(MX l ns).Nodup
 |[],l,h=>h
 |n::t,l,h=>X' t _ (Yg _ _ _ (YJ h))
def sL(A:List aq)(R:List av):List av:=R++A.flatMap λy=>y.1.2.2.2.2.2.2.1++y.1.2.2.2.2.2.2.2.flatMap (·.2)
def UK(A:List aq)(R:List av):List fU:=(sL A R).flatMap λn=>(n.1,[])::n.2.2.map λf=>(n.1,f)
theorem aqA{A:List aq}(hA:bR A){R:List av}(hR:bZ R):(sL A R).length<=14408:=by
 have h1:=E9 A (λ(y:aq)=>y.1.2.2.2.2.2.2.1++y.1.2.2.2.2.2.2.2.flatMap (·.2)) 40 (λy F=>by have he:=hA.dp y F;have h2:=E9 y.1.2.2.2.2.2.2.2 (λ(f:fk)=>f.2) 8 (λf hf=>(he.sx f hf).2.1);have D:=he.kJ;have J:=he.AA;rw[au5];omega)
 have h2:=hA.many;have D:=hR.many;unfold sL;grind
theorem arQ{A:List aq}(hA:bR A){R:List av}(hR:bZ R):∀n∈sL A R,wU 4 n:=by
 intro n D;rcases av3.1 D with h|h
 ·exact hR.eF n h
 ·obtain⟨y,F,h⟩:=List.mem_flatMap.1 h;have he:=hA.dp y F;rcases av3.1 h with h|h
  ·exact he.eF n h
  ·obtain⟨f,hf,h⟩:=List.mem_flatMap.1 h;exact(he.sx f hf).2.2 n h
theorem aqz{A:List aq}(hA:bR A){R:List av}(hR:bZ R):(UK A R).length<=72040:=by
 have h1:=E9 (sL A R) (λ(n:av)=>(n.1,[])::n.2.2.map λf=>(n.1,f)) 5 (λn D=>by have:=(arQ hA hR n D).2.2.1;rw[av1,au1];omega)
 have h2:=aqA hA hR;unfold UK;omega
theorem aqy{A:List aq}{R:List av}{x:fU}{n:av}(D:n∈sL A R)(h:B8 x n):x∈UK A R:=by
 refine List.mem_flatMap.2 ⟨n,D,?_⟩;rcases h with⟨h1,h2|h2⟩
 ·grind
 ·grind
theorem alm{A:List aq}{R:List av}{y:aq}(F:y∈A)(f:List UInt8):∀n∈Tf y.1 f,n∈sL A R:=by
 intro n D;refine av3.2 (.inr (List.mem_flatMap.2 ⟨y,F,?_⟩));unfold Tf at D;split at D
 ·grind
 ·cases hf:iN y.1 f with
  |none=>grind
  |some k=>rw[hf]at D;exact av3.2 (.inr (List.mem_flatMap.2 ⟨_,EH hf,D⟩))
theorem aos{A:List aq}{R:List av}(choice:List Int)(t:fU):∀n∈F8 A choice t,n∈sL A R:=by
 intro n D;unfold F8 at D;split at D
 ·rename_i y F;split at D
  ·grind
  ·exact alm (List.mem_of_getElem? F) _ n D
 ·grind
structure Bg(A:List aq)(R:List av)(choice:List Int)(at_:Nat)(s:List fU×List av):Prop where
 once:s.1.Nodup
 named:∀x∈s.1,∃n∈s.2,B8 x n
 back:∀n∈s.2,∀x,B8 x n->x∈s.1
 roots:∀n∈R,n∈s.2
 src:∀n∈s.2,n∈R\/∃t∈s.1,n∈F8 A choice t
 done:∀j x,j<at_->s.1[j]? =some x->∀n∈F8 A choice x,n∈s.2
 ind:∀P:fU->Prop,(∀n∈R,∀x,B8 x n->P x)->(∀t,P t->∀n∈F8 A choice t,∀x,B8 x n->P x)->∀x∈s.1,P x
 kn:s.2.length<=8+8*at_
 place:at_<=s.1.length
variable {A:List aq} {R:List av} {choice:List Int} {at_:Nat} {s:List fU×List av}
theorem Bg.all(h:Bg A R choice at_ s):∀n∈s.2,n∈sL A R:=by
 intro n D;rcases h.src n D with q|⟨t,_,q⟩
 ·exact av3.2 (.inl q)
 ·exact aos choice t n q
theorem Bg.len(hA:bR A)(hR:bZ R)(h:Bg A R choice at_ s):s.1.length<=72040:=
 aw8 (Eh h.once λx F=>by obtain⟨n,D,e⟩:=h.named x F;exact aqy (h.all n D) e) (aqz hA hR)
theorem Bg.first(hR:bZ R):Bg A R choice 0 (MX [] R,R) where
 once:=X' R [] List.nodup_nil
 named:=λx F=>((Lg x R []).1 F).elim (λh=>(az1 h).elim) id
 back:=λn D x F=>(Lg x R []).2 (.inr ⟨n,D,F⟩)
 roots:=λn D=>D
 src:=λn D=>.inl D
 done:=λj x h=>absurd h (Nat.not_lt_zero j)
 ind:=λP h1 h2 x F=>((Lg x R []).1 F).elim (λh=>(az1 h).elim) (λ⟨n,D,e⟩=>h1 n D x e)
 kn:=hR.many
 place:=au2 _
section
open Go.Sort
theorem aqI:FZ=cW:=by funext x y;unfold FZ;rw[Db,Db];exact(KW x y).symm
theorem amA(x y:Want):ltOf cW x y=uo x y:=by
 unfold ltOf;cases h:uo x y with
 |true=>exact decide_eq_true (Rx.1 h)
 |false=>exact decide_eq_false (λg=>by rw[Rx.2 g]at h;cases h)
theorem eG.swo{α:Type}{c:α->α->Int}(hc:eG c):SWO (ltOf c):=by
 refine⟨λx=>?_,λx y z h1 h2=>?_,λx y z h1 h2=>?_⟩
 ·exact decide_eq_false (by rw[hc.self x];decide)
 ·exact decide_eq_true (hc.xW (of_decide_eq_true h1) (by have:=of_decide_eq_true h2;omega))
 ·have h1:=of_decide_eq_false h1;have h2:=of_decide_eq_false h2;have D:=hc.neg x y;have F:=hc.neg y z;have J:=hc.neg x z;have:=hc.tr z y x (by omega) (by omega)
  exact decide_eq_false (by omega)
theorem aoy(args:Array Value)(w:World):(callFunc 47 args).run at1 w=.ok (.enter 47 args) w:=
 Go.MuLone.run_callFunc_enter Tryz.func47 (by kernel_rfl) rfl args w
noncomputable def akN:cM at1:=mkB 46 ⟨[(0,.c (.own 1000)),(1,.fn 47 [] [])],[(1000,.row 81 (.pair .str .str))]⟩ [(false,⟨[],[(1000,.row 81 (.pair .str .str))]⟩)] (λr=>(r,())) (λx=>wh x.1) (by kernel_rfl) (λx o h0=>by
 obtain⟨l,u⟩:=x;have h:wh l=some o:=h0;unfold wh at h;split at h
 ·rename_i F;obtain rfl:sr l=o:=Option.some.inj h;have:=anx Tryz.ar0 (t:=.pair .str .str) rfl (by decide) Tryz.isAgg81 Tryz.sizeOf81 cW kC.swo 47 aoy (λdZ off size w m os D _ x y=>by rw[<-aqI];exact an0 x y _) (λx y h1 h2=>by have h1:=of_decide_eq_false h1;have h2:=of_decide_eq_false h2;have:=kC.neg x y;exact KH (by omega)) 81 l (by omega)
  rw[show(λx y=> !(ltOf cW) y x)=λx y=> !uo y x from by funext x y;rw[amA]]at this
  exact this
 ·cases h)
end
section
open Go.Sort
def Mq(w:World)(c:List Int)(e:Ending)(w':World):Prop:= ∃g D,e=.returned (.slice (some ⟨g,0,none⟩) c.length D)/\lR w' w.heap.size g D c/\Below w.heap.size w w'
theorem YS(ad:Addr)(cap:Nat)(w:World):Calls at1 131 #[.slice (some ad) 0 cap] w (Mq w []):=by refine(Tryz.slices_Clone_int_zero ad cap w).mono ?_;rintro e w' ⟨v',rfl,L,J,F⟩;obtain⟨g,D,rfl,hO⟩:=Ma (l:=[]) L J;exact⟨g,D,rfl,hO,F⟩
theorem Yk(b off cap:Nat)(c:List Int)(w:World)(M:c.length<=1000000)(hc:∀j,j<c.length->w.cell? ⟨b,off+j,none⟩=some (.int .i64 (c.getD j 0))):
  Calls at1 131 #[.slice (some ⟨b,off,none⟩) c.length cap] w (Mq w c):=by
 refine(Tryz.slices_Clone_int b off c.length cap c w (at9 _) (by omega) hc).mono ?_
 rintro e w' ⟨v',rfl,D,L,J⟩;rw[ax6]at D;obtain⟨g,F,rfl,hO⟩:=Ma D L;exact⟨g,F,rfl,hO,J⟩
theorem an7(w:World):Calls at1 58 #[.slice none 0 0] w λe w'=>e=.returned (.slice none 0 0)/\w=w':=by
 go_enter Tryz.func58,Tryz.ntmps58
 go_wp2_with fail
 refine(Tryz.slices_Clone_int_nil 0 0 _).mono ?_;rintro e w1 ⟨rfl,rfl⟩
 go_wp2_with fail
 refine(AnyF.slices_SortFunc_none {Tryz.TE with} none 0 _ _).mono ?_
 rintro e w1 ⟨rfl,rfl⟩
 go_wp2_with fail
 refine(Tryz.slices_Compact_int_empty none 0 _).mono ?_;rintro e w1 ⟨rfl,rfl⟩
 go_wp2_with fail
 refine(aba _).mono ?_;rintro e w1 ⟨rfl,rfl⟩
 go_wp2_with fail
 go_ret
 exact⟨rfl,rfl⟩
theorem Rg(ad:Addr)(cap:Nat)(c:List Int)(w:World)(hcl:Calls at1 131 #[.slice (some ad) c.length cap] w (Mq w c))(hlen:c.length<=1000000):
  Calls at1 58 #[.slice (some ad) c.length cap] w λe w'=>∃g cp,e=.returned (.slice (some ⟨g,0,none⟩) (ir c).length (ir c).length)/\lR w' w.heap.size g cp (ir c)/\Below w.heap.size w w':=by
 have HC:=au3 hcl;clear hcl
 go_enter Tryz.func58,Tryz.ntmps58
 go_wp2_with fail
 refine HC.out.mono ?_;rintro e w1 ⟨g,cp,rfl,ho,hb⟩;have HO:=au3 ho;have HB:=au3 hb;clear ho hb
 go_wp2_with fail
 refine(ao3 w.heap.size g cp c _ HO.out hlen w HB.out).mono ?_;rintro e w2 ⟨rfl,ho,hb⟩;have HO2:=au3 ho;have HB2:=au3 hb;have e1:(lG c).length=c.length:=Qz c;clear ho hb
 go_wp2_with fail
 have hc:=alD w.heap.size g cp (lG c) _ HO2.out w HB2.out;rw[e1]at hc;refine hc.mono ?_;clear hc;rintro e w3 ⟨rfl,ho,hb⟩;have HO3:=au3 ho;have HB3:=au3 hb;clear ho hb
 go_wp2_with fail
 refine(aqp g _ cp _ HO3.out.qX HO3.out.mx).mono ?_;rintro e w4 ⟨rfl,rfl⟩
 go_wp2_with fail
 go_ret
 exact⟨g,cp,rfl,HO3.out,HB3.out⟩
theorem Ex{l:List Int}(h:∀x∈l,-1000000<=x/\x<=1000000):ir l=bz l:=by
 obtain⟨h1,h2⟩:=amx l;refine Md ?_ h2
 have F:∀x∈ir l,gF x=(x.natAbs:Int):=λx M=>by
  have:=h x ((h2 x).1 M);unfold gF;rw[IntWalk.i64_in _ (by omega)]
  omega
 refine List.Pairwise.imp_of_mem (λ{a b} J L D=>?_) h1;refine Ac.1 ?_;unfold pL at D;rw[F a J,F b L]at D;unfold oz;rw[az0,au0,decide_eq_true_eq,decide_eq_true_eq,decide_eq_true_eq];omega
theorem apU{c:Cx}{h:Hp}{w:World}{xs:List Value}{l:List Int}(D:au (CR c h w) xs (aQ (.int .i64) l)):xs=l.map (Value.int .i64):=by
 refine Ap D ?_;clear D
 induction l with
 |nil=>rfl
 |cons x l F=>show fG (.v (.int .i64) x::aQ (.int .i64) l)=_;unfold fG;rw[show sI (.v (.int .i64) x)=some (.int .i64 x) from rfl,F];rfl
theorem aq7(l:List Int)(O:l.length<=1000000):fw at1 58 [.c (.ow 1000 0 .all)] [(1000,.row [] 3 (.int .i64) l)] (.ret (.c (.v (.sl (.int .i64)) (ir l))) [(1000,.row [] 3 (.int .i64) l)]):=by
 intro c w vals hC hv;obtain⟨v0,rfl,Z⟩:=tU hv;have ho:aj [(1000,aR.row [] 3 (.int .i64) l)] 1000=some (.row [] 3 (.int .i64) l):=rfl;obtain⟨_,_,_,_,L⟩:=iO (w:=w) (H:=[(1000,aR.row [] 3 (.int .i64) l)]) (λ_ _ h=>h) (show rowAt [(1000,aR.row [] 3 (.int .i64) l)] 1000 0=some (.row [] 3 (.int .i64) l) from rfl) Z
 have L:v0=c.m 1000:=L;subst L;obtain⟨_,xs,J,ah⟩:=(hC.obj 1000 _ ho).row rfl;obtain rfl:=apU ah;have J:eB w 3 1 (c.m 1000) l.length (l.map (Value.int .i64)):=J
 have fin:∀w' g D,lR w' w.heap.size g D (ir l)->Below w.heap.size w w'->∃c',pW (cS w c (aj [(1000,.row [] 3 (.int .i64) l)])) (.returned (.slice (some ⟨g,0,none⟩) (ir l).length (ir l).length)) c' w' (.ret (.c (.v (.sl (.int .i64)) (ir l))) [(1000,.row [] 3 (.int .i64) l)]):=λw' g D hO hB=>by
  obtain⟨g1,g2⟩:=hC.A9 (gv.qv hB) (λb i=>c.A b i\/b=g) (λb i h=>.inl h) (λb i h=>h.elim .inl (λh=>.inr (by rw[h];exact⟨hO.bg,hO.lt⟩)))
  refine⟨_,_,rfl,g1,rfl,_,_,rfl,.inr ⟨at9 _,aw8 hO.qX hO.mx,g,0,rfl,λi x U=>⟨.inr rfl,?_⟩⟩⟩;have M:=(ay9.1 U).1;have:=(hO.holds i (by simpa using M)).1
  rw[show 0+(i*wid (.int .i64)+0)=0+i by simp [wid],this]
  simp [M,(ay9.1 U).2]
 have Y:∀ad cap,c.m 1000=.slice (some ad) l.length cap->Calls at1 131 #[.slice (some ad) l.length cap] w (Mq w l)->Calls at1 58 #[c.m 1000] w λe w'=>∃c',pW (cS w c (aj [(1000,.row [] 3 (.int .i64) l)])) e c' w' (.ret (.c (.v (.sl (.int .i64)) (ir l))) [(1000,.row [] 3 (.int .i64) l)]):=λad cap e h=>by rw[e];refine(Rg ad cap l w h O).mono ?_;rintro e w' ⟨g,D,rfl,h1,h2⟩;exact fin w' g D h1 h2
 rcases J with⟨a,e,h0,_⟩|⟨g,cap,cur,e,h1,h2,h3,h4,h5⟩
 ·have F:l=[]:=az2.1 h0;cases a with
  |none=>
   show Calls at1 58 #[c.m 1000] w _;rw[e];refine(an7 w).mono ?_;rintro e w' ⟨rfl,rfl⟩;subst F;refine⟨c,_,rfl,hC,rfl,none,0,?_,.inl ?_⟩
   ·rw[show ir []=[] from Ex (l:=[]) (λx h=>by cases h)];rfl
   ·exact Ex (l:=[]) (λx h=>by cases h)
  |some ad=>
   refine Y ad 0 (by rw[e,F];rfl) ?_
   rw[F];exact YS ad 0 w
 ·refine Y _ _ e (Yk g 0 (cap+1) l w O (λj N=>?_));have an:j<cur.size:=by omega
  have g4:cur[j]? =some (.int .i64 l[j]):=by
   have:=congrArg (·[j]?) h5
   simpa[aF0,N]using this
  rw[ax2];show(World.cell? w ⟨g,j,none⟩)=_;simp only[World.cell?,h1];rw[g4];simp [aC3,N]
noncomputable def akC:cM at1:=mkB 58 ⟨[(0,.c (.own 1000))],[(1000,.row 3 (.int .i64))]⟩ [(false,⟨[(2,.c (.v (.sl (.int .i64))))],[(1000,.row 3 (.int .i64))]⟩)] (λr=>(r.1,r.2,())) (λx=>mP x.1) (by kernel_rfl) (λx o h0=>by
 obtain⟨l,u⟩:=x;have h:mP l=some o:=h0;unfold mP at h;split at h
 ·rename_i D;obtain rfl:(bz l,l)=o:=Option.some.inj h;rw[au0,decide_eq_true_eq]at D;have hk:∀x∈l,-1000000<=x/\x<=1000000:=λx F=>by have:=ax0.1 D.1 x F;rw[au0,decide_eq_true_eq,decide_eq_true_eq]at this;exact this
  have:=aq7 l D.2;rw[Ex hk]at this;exact this
 ·cases h)
end
abbrev FS:=cM at1
noncomputable def mkG(G:List FS)(D:List (Nat×bo))(f:FuncId)(aB:Shape)(outs:List (Bool×Shape)){A:Type}(F:cm aB->Option A)(g:JU outs->A:=by exact λo=>o.1)(h:A->JU outs:=by exact λr=>(r,()))(L:∀o,h (g o)=o:=by exact λ_=>rfl)(eT:oy aB outs=true:=by kernel_rfl)(J:∀x,xf at1 G D f aB outs g x=F x:=by intro x;kernel_rfl):FS:=mkF G D f aB outs g h L F eT J
noncomputable def mkQ(G:List FS)(D:List (Nat×bo))(f:FuncId)(aB:Shape)(outs:List (Bool×Shape)){A:Type}(F:cm aB->Option A)(g:JU outs->A:=by exact λo=>(o.1,o.2.1))(h:A->JU outs:=by exact λr=>(r.1,r.2,()))(L:∀o,h (g o)=o:=by exact λ_=>rfl)(eT:oy aB outs=true:=by kernel_rfl)(J:∀x,xf at1 G D f aB outs g x=F x:=by intro x;kernel_rfl):FS:=mkF G D f aB outs g h L F eT J
abbrev k1{A B C:Type}(f:A->C)(x:A×B):C:=f x.1
abbrev k2{A B D C:Type}(f:A->B->C)(x:A×B×D):C:=f x.1 x.2.1
abbrev k3{A B D E C:Type}(f:A->B->D->C)(x:A×B×D×E):C:=f x.1 x.2.1 x.2.2.1
abbrev k4{A B D E G C:Type}(f:A->B->D->E->C)(x:A×B×D×E×G):C:=f x.1 x.2.1 x.2.2.1 x.2.2.2.1
noncomputable def mkHh(G:List FS)(D:List (Nat×bo))(f:FuncId)(aB:Shape)(outs:List (Bool×Shape)){A:Type}(g:JU outs->A)(h:A->JU outs)(L:∀o,h (g o)=o)(F:cm aB->Option A)(eT:oy aB outs=true:=by kernel_rfl)(J:∀x,xf at1 G D f aB outs g x=F x:=by intro x;kernel_rfl):FS:=mkF G D f aB outs g h L F eT J
abbrev a0b:Ty:=.pair .str (.pair .str (.sl .str))
abbrev a0a:Ty:=.pair .str (.pair (.sl (.sl (.pair (.int .i64) (.pair (.pair (.int .i64) (.pair (.int .i64) (.int .i64))) .str)))) (.sl .str))
abbrev xF:Ty:=.sl .str
abbrev gj:Ty:=.int .i64
abbrev Oc:Ty:=.pair gj (.pair gj gj)
abbrev Pc:Ty:=.pair Oc .str
abbrev u4:Ty:=.pair gj Pc
abbrev s9:Ty:=.sl u4
abbrev p8:Ty:=.pair .str (.pair (.sl s9) xF)
abbrev re:Ty:=.sl p8
abbrev vg:Ty:=.pair .str re
abbrev xL:Ty:=.int .u64
abbrev ku:Ty:=.pair .str (.pair Pc (.pair xL (.pair (.int .u32) (.pair .bool (.pair re (.pair re (.sl vg)))))))
abbrev Hk:Ty:=.pair .str xF
abbrev mJ:Ty:=.pair .str Hk
abbrev xB:Ty:=.sl mJ
abbrev ta:Ty:=.pair .str xB
abbrev yg:Ty:=.pair .str (.pair .str (.pair .str (.pair .str (.pair .bool (.pair xB (.pair xB (.sl ta)))))))
abbrev Cr:Ty:=.pair .str (.int .u32)
abbrev Cu:Ty:=.pair .str (.sl xL)
abbrev BV:Ty:=.pair .str Pc
abbrev yh:Ty:=.pair .str (.pair gj xF)
abbrev vz:Ty:=.pair .str (.pair (.gK .f64) .bool)
abbrev Cp:Ty:=.pair (.sl vz) (.pair (.sl yh) (.pair (.sl BV) (.pair (.sl Cu) (.sl Cr))))
abbrev cT:Sh:=.v gj
abbrev aU:SS:=.c cT
abbrev vB:Ty:=.pair gj (.pair gj Oc)
abbrev BQ:Ty:=.sl gj
abbrev tj:Ty:=.pair gj (.pair xF BQ)
abbrev rB:Ty:=.pair .str .str
abbrev Hf:Ty:=.pair yg (.pair .str gj)
abbrev Pb:Ty:=.sl Hf
abbrev bm:Sh:=.v .str
abbrev vA:SO:=.st 231 (.pair tj (.pair gj Oc))
abbrev BD:Ty:=.sl rB
abbrev qb:Ty:=.pair ku .str
abbrev Q_q:Ty:=.ptr (.pair (.sl qb) (.pair re BD))
abbrev lP:SO:=.row 165 p8
abbrev Vh:SO:=.st 297 (.pair tj gj)
abbrev sX:Sh:=.v .bool
abbrev Hs:Sh:=.v (.int .u32)
abbrev N2:List Sh:=[bm,.own 1001]
abbrev Pa:List (Nat×SO):=[(1000,.var 320 N2),(1001,.bF 150 ku [bm,cT,cT,cT,bm,.v xL,Hs,sX,.own 5002,.own 5003,.own 5004]),(1020,Vh),(5002,lP),(5003,lP),(5004,.bF 154 vg [bm,.own 5005]),(5005,lP)]
abbrev xI:SO:=.row 317 Cr
abbrev xJ:SO:=.row 418 Cu
abbrev xO:SO:=.row 411 BV
abbrev xK:SO:=.row 405 yh
abbrev xH:SO:=.row 337 vz
abbrev ad5:Sh:=.own 1002
abbrev Ih:List Sh:=[.own 1001,ad5,.own 1003,.own 1004,.own 1005]
abbrev N4:Nat×SO:=(1000,.var 101 Ih)
abbrev Q_s:List (Nat×SO):=[N4,(1001,xH),(1002,xK),(1003,xO),(1004,xJ),(1005,xI),(1020,Vh)]
abbrev gi:Nat×SO:=(1000,Vh)
abbrev ic:SS:=.c (.v BQ)
abbrev jx:SS:=.c sX
abbrev uV:Ty:=.pair qb gj
abbrev vy:SO:=.row 240 uV
abbrev BY:SO:=.row 81 rB
abbrev eQ:SO:=.row 9 .str
abbrev gI:SO:=.row 3 gj
abbrev VR:Sh:=.v (.sl qb)
abbrev By:List Sh:=[.dead,.dead]
abbrev Oy:List Sh:=(.dead::By)
abbrev Vg:SO:=.var 297 (.dead::Oy)
abbrev Wn:List (Nat×SO):=[(1001,xH),(1002,xK),(1003,xO),(1004,xJ),(1005,xI),(1020,Vg)]
abbrev BU:Ty:=.pair .str rB
abbrev O':Ty:=.pair (.sl BU) (.pair xB (.pair BD (.pair (.sl Hk) BD)))
abbrev vj:Sh:=.v BD
abbrev Gz:Sh:=.v (.sl Hk)
abbrev lf:Sh:=.v xB
abbrev rC:SO:=.var 110 [.v (.sl BU),lf,vj,Gz,vj]
abbrev VI:SO:=.bF 150 ku (.dead::.dead::.dead::.dead::.dead::.dead::.dead::.dead::Oy)
abbrev Ii:List (Bool×Shape):=[(false,⟨[],Pa⟩),(true,⟨[],[(1000,.var 320 By),(1001,VI),(1020,Vg),(5002,lP),(5003,lP),(5004,.bF 154 vg By),(5005,lP)]⟩)]
abbrev dm:Nat×SS:=(0,.c (.ptr 1000 0))
abbrev lY:Nat×SO:=(1000,Vg)
abbrev vE:SO:=.var 38 [.v Pb,lf,vj]
abbrev cK:List (Nat×Nat):=[(1000,1000)]
abbrev fa:SS:=.c bm
abbrev sU:List (Nat×SS):=[(4,jx)]
abbrev fv:List (Bool×Shape):=[(false,⟨sU,[]⟩)]
abbrev qa:Sh:=.v xF
abbrev cU:Nat×SS:=(2,.c (.ptr 2 0))
abbrev vC:Ty:=.pair gj (.pair gj (.pair gj xF))
abbrev nB:Nat×Nat:=(1000,1020)
abbrev bj:List (Nat×Nat):=[nB]
abbrev oG:SO:=.row 392 rB
abbrev uW:SO:=.row 449 Hk
abbrev N1:SO:=.row 349 BU
abbrev Ct:List (Nat×SO):=[(1001,N1),(1002,.row 347 mJ),(1003,oG),(1004,uW),(1005,oG)]
abbrev cQ:Nat×SS:=(0,.c (.own 1000))
abbrev fp:List (Nat×SS):=[(4,aU)]
abbrev eJ:List (Bool×Shape):=[(false,⟨fp,[]⟩)]
abbrev Pd:Ty:=.pair vB BQ
abbrev s6:SO:=.row 63 Pd
abbrev uY:List (Nat×SO):=[(1020,s6)]
abbrev aev:SO:=.var 134 [bm,bm,bm,bm,sX,lf,lf,.v (.sl ta)]
abbrev Cs:List (Nat×SO):=((3,vE)::(7,aev)::uY)
abbrev Ha:List (EK×Shape):=[(.ret,⟨fp,[]⟩)]
abbrev xN:EK×Shape:=(.normal,⟨[],[]⟩)
abbrev p9:Nat×bo:=(13,{cut:=(xN::Ha)})
abbrev c9:Nat×SS:=(3,.c (.ptr 3 0))
abbrev fO:Nat×SS:=(5,.c (.ptr 5 0))
abbrev dP:Nat×SS:=(0,fa)
abbrev cJ:Shape:=⟨[dP],[]⟩
abbrev Cq:List (Nat×SO):=[(1001,N1),(1002,.row 347 mJ),(1003,oG),(1004,uW),(1005,oG),(1020,vA)]
abbrev oQ:List (Nat×bo):=[(6,{ow:=[9],ps:=[(9,cK)]}),(250,{ow:=[23],ps:=[(23,cK)]})]
abbrev iY:Nat×SS:=(4,.c (.ptr 4 0))
abbrev B4:List Sh:=[cT,cT,cT]
abbrev nC:SO:=.var 119 B4
abbrev xP:List Sh:=[.nil,.nil]
abbrev G8:SO:=.var 214 (cT::xP)
abbrev Pf:List (Nat×SO):=[(4,G8),(5,nC),(6,.var 214 [cT,.own 101,.own 108]),(101,eQ),(108,gI)]
abbrev GV:Nat×SO:=(5,.var 89 B4)
abbrev Pe:List (Nat×SO):=[(4,.var 291 (cT::xP)),GV,(6,.var 291 [cT,.own 85,.own 92]),(85,eQ),(92,gI)]
abbrev jL:SO:=.row 59 vB
abbrev ie:List (Nat×SO):=[(1000,jL)]
abbrev Hr:SO:=.var 231 (cT::qa::.v BQ::cT::B4)
abbrev Q_6:List (Nat×SO):=[(1001,N1),(1002,.row 347 mJ),(1003,oG),(1004,uW),(1005,oG),(1020,Hr)]
abbrev iI:List (Bool×Shape):=[(false,⟨[(2,jx)],[]⟩)]
abbrev lZ:SO:=.row 191 mJ
abbrev VM:List (Nat×SO):=[N4,(1001,xH),(1002,xK),(1003,xO),(1004,xJ),(1005,xI),(1020,.var 297 [cT,qa,.v BQ,cT])]
abbrev aeC:List (Nat×SO):=[(5102,lP),(5103,lP),(5104,.bF 154 vg [bm,.own 5105]),(5105,lP)]
abbrev ae8:Nat×SO:=(1101,.bF 150 ku [bm,cT,cT,cT,bm,.v xL,Hs,sX,.own 5102,.own 5103,.own 5104])
abbrev VK:List (Nat×SO):=((1100,.var 320 [bm,.own 1101])::ae8::aeC)
abbrev jr:Nat×SS:=(1,.c (.ptr 1020 0))
abbrev Hm:SS:=.st Oc
abbrev lO:SS:=.fn 107 [] [.v (.ptr Cp)]
abbrev afl:SS:=.st (.pair Pb (.pair xB BD))
abbrev Hl:List (Nat×SO):=[(1022,.var 9 [bm])]
abbrev u9:Sh:=.v (.sl s9)
abbrev NZ:List (Nat×SS):=[(16,aU),(17,aU)]
abbrev fo:SS:=.c qa
abbrev pS:Nat×SS:=(10,aU)
abbrev pR:Nat×SS:=(9,aU)
abbrev nE:SS:=.c (.v re)
abbrev Vr:Nat×SS:=(3,.c (.own 27))
abbrev Bx:List (Nat×SS):=[pR,pS]
abbrev aeb:Shape:=⟨(Vr::(8,nE)::Bx),[(27,BY)]⟩
abbrev afk:List (Nat×bo):=[(58,{pre:=[.dI 3 27 (.row [] 81 rB [])],loop:=some aeb}),(7475,{cut:=[(.normal,aeb)]}),(14950,{loop:=some ⟨(Vr::fO::(8,nE)::pR::pS::(15,fo)::NZ),[(5,.var 165 [bm,u9,qa]),(27,BY)]⟩})]
abbrev gu:Nat×SS:=(6,.c (.ptr 6 0))
abbrev B3:List Sh:=[bm,bm,bm,bm,sX,.own 1001,ad5,.own 1003]
abbrev jM:Nat×SS:=(1,.c (.own 1020))
abbrev aeu:SS:=.c (.v Q_q)
abbrev jq:Nat×SS:=(0,aeu)
abbrev xG:Ky:=.u [3] false
abbrev Ol:Ky:=.u [2] false
abbrev oE:Ky:=.q [5]
abbrev vi:bo:={kf:=[(1,oE),(2,Ol),(3,xG)]}
abbrev oJ:SS:=.c (.kb false)
abbrev GG:Sh:=.v (.sl Cr)
abbrev GF:Sh:=.v (.sl Cu)
abbrev GA:Sh:=.v (.sl BV)
abbrev BK:Sh:=.v (.sl yh)
abbrev Ox:SO:=.var 101 [.v (.sl vz),BK,GA,GF,GG]
abbrev pT:SS:=.c (.v Pb)
abbrev aeN:List (Nat×SO):=[(1201,xH),(1202,xK),(1203,xO),(1204,xJ),(1205,xI)]
abbrev Vx:Nat×SO:=(1200,.var 101 [.own 1201,.own 1202,.own 1203,.own 1204,.own 1205])
abbrev Ho:SO:=.var 4 [sX]
abbrev oH:Nat×SO:=(1100,Ho)
abbrev VJ:List (Nat×SO):=(oH::Vx::aeN)
abbrev dD:Nat×SS:=(1,fa)
abbrev lQ:Shape:=⟨[dP,dD],[]⟩
abbrev uX:List (Nat×SS):=[(8,aU)]
abbrev s7:Nat×SS:=(7,aU)
abbrev jN:List (Nat×SS):=(s7::uX)
abbrev bT:Nat×SS:=(1,aU)
abbrev Ht:List (Nat×Nat):=[(1000,1040),(1001,1041),(1002,1042),(1003,1043),(1004,1044),(1005,1045),(1020,1000)]
abbrev kg:SS:=.c (.v xL)
abbrev Ob:SO:=.var 101 (.dead::.dead::Oy)
abbrev Hq:List (Bool×Shape):=[(false,⟨[],Q_s⟩),(true,⟨[],((1000,Ob)::Wn)⟩)]
abbrev pV:SO:=.var 286 [cT,cT,cT,qa]
abbrev nF:SO:=.var 145 [cT,cT,cT,bm]
abbrev pU:List (Bool×Shape):=[(true,⟨[],[lY]⟩)]
abbrev gX:List (Nat×SO):=[(1000,vy)]
abbrev bS:Ky:=.q []
abbrev ke:SS:=.c (.v (.sl tj))
abbrev j9:Nat×SS:=(6,aU)
abbrev oF:List (Nat×SS):=[j9]
abbrev afm:Shape:=⟨oF,[]⟩
abbrev dE:Nat×SS:=(2,aU)
abbrev fJ:List (Nat×SS):=[(5,aU)]
abbrev Oz:List (Nat×Nat):=[(1000,1000),(1001,1001),(1020,1020),(5002,5002),(5003,5003),(5004,5004),(5005,5005)]
abbrev N7:Nat×SO:=(1002,lZ)
abbrev VN:SO:=.var 134 (bm::bm::bm::bm::.kb false::.nil::xP)
abbrev Hn:List (EK×Shape):=[(.ret,⟨[(2,oJ)],[]⟩)]
abbrev G6:Ty:=.pair .str (.sl ku)
abbrev vf:Ty:=.pair .str (.sl yg)
abbrev Om:List Sh:=[.nil,.nil,.nil,.nil,.nil,bm,.nil]
abbrev afq:List (Nat×SO):=[(2,.var 115 (.nil::.nil::.nil::.nil::.nil::Hs::.nil::Om)),(6,.var 115 [.v (.sl vz),BK,GA,GF,GG,Hs,.own 73,.v (.sl BU),lf,vj,Gz,vj,bm,.v (.sl vf)]),(73,.row 225 G6)]
abbrev sY:Nat×SO:=(2000,.var 89 Oy)
abbrev afp:List (Nat×SO):=((1100,.var 320 [bm,.own 1101])::ae8::sY::aeC)
abbrev VQ:Nat×SO:=(1001,.bF 134 yg [bm,bm,bm,bm,sX,.own 5002,.own 5003,.own 5004])
abbrev Ow:SO:=.var 110 (.nil::.nil::.nil::xP)
abbrev afo:List (Nat×SO):=[(2,Ow),(3,nC),(6,.var 110 [.own 700,.own 701,.own 702,.own 703,.own 704]),(700,N1),(701,.row 347 mJ),(702,oG),(703,uW),(704,oG)]
abbrev VP:List (Nat×SO):=[(1201,xH),(1202,xK),(1203,xO),(1204,xJ),(1205,xI),sY]
abbrev Hu:List (Nat×bo):=[(3378,{ow:=[16],ps:=[(16,[(1020,1021),(1040,1022)])]})]
abbrev NW:Nat×SS:=(3,.c (.own 20))
abbrev s8:Nat×SS:=(1,.c (.ptr 1 0))
abbrev afn:List (Nat×bo):=[(29,{cut:=[(.normal,⟨[NW],((20,eQ)::Ct)⟩)]}),(31,{pre:=[.aY 20]}),(58,{pre:=[.dI 3 20 (.row [] 9 .str [])],loop:=some ⟨(s8::NW::fp),((1,.var 110 Ih)::(20,eQ)::Ct)⟩})]
abbrev UZ:SO:=.var 252 [bm,.nil]
abbrev afg:List (Nat×SO):=[(2,UZ),(3,nC),(6,.var 252 [bm,.own 701]),(701,.bF 134 yg [bm,bm,bm,bm,sX,.own 702,.own 703,.own 704]),(702,lZ),(703,lZ),(704,.bF 138 ta [bm,.own 705]),(705,lZ)]
abbrev eY:Ky:=.q [1000]
abbrev Hg:SS:=.c (.v (.sl vB))
abbrev VD:List (Nat×SO):=[(5002,lZ),(5003,lZ),(5004,.bF 138 ta [bm,.own 5005]),(5005,lZ)]
abbrev rj:List Sh:=[.ptr 1021 0,.ptr 1022 0]
abbrev lL:SS:=.fn 56 [] []
abbrev aeZ:SS:=.c (.kb true)
abbrev Ou:bo:={cut:=[xN,(.ret,⟨[(4,aeZ)],[]⟩)]}
abbrev kX:List (Nat×SS):=[(2,fa)]
abbrev sZ:List (Bool×Shape):=[(false,⟨kX,[]⟩)]
abbrev N3:Sh:=.v (.ptr gj)
abbrev ad6:Sh:=.v (.ptr xF)
abbrev VB:Nat×SS:=(1,.fn 194 [] [.v (.ptr (.sl uV)),N3,ad6,N3])
abbrev ri:Nat×SS:=(4,.c (.ptr 2000 0))
abbrev ve:List (Bool×Shape):=[(false,⟨[dE],[]⟩)]
abbrev He:List (Nat×bo):=[(12,{rd:=[12]}),(26,{ow:=[15],ps:=[(15,cK)]})]
abbrev dC:Ky:=.q [3]
abbrev BF:Ty:=.pair gj vC
abbrev VA:Ty:=.sl BF
abbrev oI:Ky:=.u [1020] false
abbrev Ot:SS:=.c (.own 5000)
abbrev afi:List (Nat×SO):=[(1041,xH),(1042,xK),(1043,xO),(1044,xJ),(1045,xI)]
abbrev Bv:Nat×SS:=(11,aU)
abbrev Oa:Nat×SS:=(2,.c (.v (.sl vf)))
abbrev afh:Shape:=⟨[dD,Oa,c9,(7,pT),(8,aU),pR,(10,.c (.ptr 10 0)),Bv],[(3,rC),(10,.var 136 [bm,bm,bm,bm,sX,lf,lf,.v (.sl ta),bm,cT])]⟩
abbrev B2:List (Nat×bo):=[(6,{ow:=[11],ps:=[(11,cK)]})]
abbrev Hj:List (Nat×bo):=[(6,{ow:=[9],ps:=[(9,[(1021,4),(1022,5)])]})]
abbrev VG:List (Nat×bo):=[(62670,{ow:=[25],ps:=[(25,[(1000,20)])]}),(250685,{ow:=[34],ps:=[(34,[(1000,20)])]})]
abbrev lM:List (Nat×SO):=[(1000,vA)]
abbrev Hi:SS:=.c (.v (.sl Pd))
abbrev atA:bo:={cut:=[xN,(.ret,⟨[(4,oJ)],[]⟩)]}
abbrev rk:List (Nat×SO):=[(1040,.var 9 [bm])]
abbrev VF:List (Nat×SO):=[(1001,lZ),N7,(1003,.bF 138 ta [bm,.own 1004]),(1004,lZ),(1020,vA)]
abbrev B1:SO:=.var 60 (cT::cT::B4)
abbrev nD:Ky:=.u [1020] true
abbrev jo:List (Nat×SS):=[(3,jx)]
abbrev VE:List (Nat×SO):=[(14,BY),(16,.var 142 [VR,.v re,.own 14])]
abbrev Hh:Nat×SS:=(5,.c (.own 12))
abbrev Ov:Nat×SS:=(1,.fn 218 [] [.v (.ptr p8),.v (.ptr (.sl qb))])
abbrev B0:Nat×SS:=(7,.c (.ptr 7 0))
abbrev BZ:SS:=.c (.v (.sl uV))
abbrev N8:Nat×SS:=(8,.c (.ptr 8 0))
abbrev afj:List (Nat×SS):=[(2,.c lf),(4,ic),fO,N8,Bv]
abbrev xM:List (Nat×SS):=[jr,(2,.c (.ptr 1040 0))]
abbrev atB:Nat×SS:=(3000002,.st (.pair (.sl qb) (.pair re (.pair Pb xB))))
abbrev vh:List (Nat×SS):=[(8,aU),pR]
abbrev ae6:List (Nat×bo):=[(8186,{ow:=[191],ps:=[(191,cK)]}),(16378,{un:=[.s 0],ow:=[205],ps:=[(205,cK)]}),(16382,{un:=[.s 0],ow:=[219],ps:=[(219,cK)]})]
abbrev u7:Nat×SS:=(0,pT)
abbrev eX:List (Nat×SO):=[gi]
abbrev G5:List (Bool×Shape):=((false,⟨[(4,fa)],eX⟩)::pU)
abbrev u6:SS:=.c vj
abbrev G4:bo:={cut:=[(.normal,⟨[],gX⟩)]}
abbrev uU:Nat×SS:=(0,.st Cp)
abbrev BR:Shape:=⟨[uU,dD],[]⟩
abbrev sV:Nat×SS:=(5,jx)
abbrev G3:List (Bool×Shape):=[(false,⟨[(4,fa),sV],[]⟩)]
abbrev nA:Nat×SS:=(14,aU)
abbrev G2:Nat×SS:=(1,.c lf)
abbrev G1:bo:={cut:=[(.normal,⟨[],ie⟩)]}
abbrev ae5:List Sh:=[cT,cT,cT,.nil]
abbrev U4:SO:=.var 318 [.mH 174]
abbrev G0:List (Nat×SO):=((1021,U4)::Hl)
abbrev U3:SO:=.var 420 [.mH 270]
abbrev GZ:List (Nat×SO):=((1021,U3)::Hl)
abbrev U2:SO:=.var 413 [.mH 264]
abbrev GY:List (Nat×SO):=((1021,U2)::Hl)
abbrev U1:SO:=.var 407 [.mH 258]
abbrev GX:List (Nat×SO):=((1021,U1)::Hl)
abbrev U0:SO:=.var 398 [.mH 250]
abbrev GW:List (Nat×SO):=((1021,U0)::Hl)
abbrev Vz:List (Bool×Shape):=[(false,⟨[(4,ic)],[]⟩)]
abbrev BW:List (Bool×Shape):=[(false,⟨[(6,jx)],[]⟩)]
abbrev G9:List (Bool×Shape):=[(false,⟨((2,fa)::jo),[]⟩)]
abbrev u5:Nat×SS:=(0,ic)
abbrev afe:Shape:=⟨(u5::(3,ic)::(4,aU)::fJ),[]⟩
abbrev afd:Nat×bo:=(7541,{ow:=[55],kf:=[(0,dC),(1,dC),(3,oI),(5,.u [1002] false),(6,dC),(7,xG)],ps:=[(55,bj)]})
abbrev BS:List Sh:=[.ptr 1100 0,.ptr 1200 0]
abbrev Vl:Ky:=.u [1001] false
abbrev afc:Nat×bo:=(939,{ow:=[39],kf:=[(0,dC),(1,dC),(3,oI),(5,Vl),(6,dC),(7,xG)],ps:=[(39,bj)]})
abbrev Vy:Nat×SO:=(3,.var 84 [bm,bm])
abbrev NX:Nat×SS:=(5,.c (.own 52))
abbrev afb:Shape:=⟨[jq,bT,NX,j9,(15,u6),(16,aU),(17,aU),(65,nE),(66,aU),(67,aU)],[(52,jL)]⟩
abbrev atz:Nat×SS:=(0,.st (.pair mJ .str))
abbrev mE:Nat×SS:=(3,aU)
abbrev Oo:bo:={loop:=some ⟨[dP,mE],[]⟩}
abbrev GC:SS:=.c .nil
abbrev On:EK×Shape:=(.ret,⟨[(2,GC),(3,oJ)],[]⟩)
abbrev afa:List (Nat×SO):=[(4,.var 165 (bm::xP)),(5,.var 165 [bm,u9,.own 37]),(37,eQ),(1000,.var 297 [cT,qa,.v BQ,cT])]
abbrev ae9:List (Nat×SO):=[(3,.var 134 B3),(6,VN),(1001,lZ),N7,(1003,.bF 138 ta [bm,.own 1004]),(1004,lZ),(1020,Hr)]
abbrev vd:List (Bool×Shape):=[(false,afm)]
abbrev sW:Nat×SS:=(13,aU)
abbrev U8:SS:=.c (.v (.sl G6))
abbrev GD:SS:=.c (.own 47)
abbrev jK:SS:=.c Hs
abbrev ae7:Shape:=⟨[(1,jK),c9,(7,GD),(12,U8),sW,nA],[(3,Ox),(47,vy)]⟩
abbrev G7:Nat×SO:=(1200,.var 123 [.own 1201])
abbrev Hd:List (Bool×Shape):=[(false,⟨[(4,fo)],[]⟩)]
abbrev Hc:List (Nat×SS):=[pS,Bv]
abbrev aff:Nat×bo:=(840,{kf:=[(0,.q [8]),(1,.q [8]),(2,.n 12),(3,.n 13),(4,.u [12] false),(5,.u [13] false)]})
abbrev Hb:bo:={cut:=(xN::Hn)}
abbrev Oq:List (Nat×SO):=[(4,.var 38 (.nil::xP)),(5,vE)]
abbrev BX:SS:=.c (.v (.sl VA))
abbrev BP:SS:=.c (.v (.int .u8))
abbrev Vv:Shape:=⟨(dP::bT::iY::fO::gu::s7::vh),Pf⟩
abbrev BO:List (Bool×Shape):=[(false,⟨[],gX⟩)]
abbrev aeV:Nat×bo:=(6,{ow:=[12],kf:=[(2,bS),(3,bS),(4,dC),(5,.u [12] false)],ps:=[(12,[(8,12)])]})
abbrev BN:List (Bool×Shape):=[(false,⟨[],ie⟩)]
abbrev BM:bo:={unp:=[.s 0]}
abbrev aeU:List (Nat×bo):=[(7976,BM),(31926,{ow:=[60],ps:=[(60,cK)]}),(63812,{ow:=[43],ps:=[(43,cK)]})]
abbrev aeT:List (Nat×SO):=[(3,.var 134 B3),(6,VN),(1001,lZ),N7,(1003,.bF 138 ta [bm,lf]),(1020,Hr)]
abbrev aeS:List (Nat×bo):=[(6,{ow:=[7],ps:=[(7,cK)]}),(28,{ow:=[9],ps:=[(9,cK)]}),(58,{ow:=[17],ps:=[(17,cK)]})]
abbrev uZ:List (Nat×SS):=[(3000003,Hm)]
abbrev aty:Nat×SS:=(9,.c (.ptr 9 0))
abbrev U6:Nat×SS:=(2,ic)
abbrev Vu:Shape:=⟨[cQ,bT,dE,mE,(4,lO)],gX⟩
abbrev aeR:List (Nat×SO):=(gi::(1020,Ho)::(1040,.var 101 [.own 1041,.own 1042,.own 1043,.own 1044,.own 1045])::afi)
abbrev aeQ:List (Nat×bo):=[(56,BM),(1812,{ow:=[31],ps:=[(31,cK)]}),(1814,{ow:=[46],ps:=[(46,cK)]})]
abbrev rh:Nat×SS:=(0,aU)
abbrev Vt:Shape:=⟨(rh::dD::iY::fO::gu::jN),Pe⟩
abbrev Vs:Shape:=⟨[cQ,bT,dE,mE,(4,lL)],ie⟩
abbrev Vq:Shape:=⟨[dm,jr,(2,.c (.OG 1001 0))],Pa⟩
abbrev GN:List (Nat×SS):=[nA,(15,aU)]
abbrev aeP:List (Nat×SO):=((2,.var 252 N2)::(4,UZ)::(5,VN)::VQ::(1020,Hr)::VD)
abbrev ae2:Nat×bo:=(61,{cut:=[(.normal,⟨[(4,kg)],[]⟩),(.ret,⟨[(2,kg),(3,oJ)],[]⟩)]})
abbrev nz:Nat×SS:=(0,u6)
abbrev Of:bo:={ow:=[21],ps:=[(21,bj)]}
abbrev Oe:bo:={ow:=[19],ps:=[(19,cK)]}
abbrev Vi:List (Nat×SO):=[(5,nC),(54,.row 214 tj)]
abbrev ae1:Shape:=⟨(dP::bT::fO::(6,.c (.own 54))::s7::vh),Vi⟩
abbrev Od:List (Nat×SS):=[(1,.st rB)]
abbrev ae0:List (Nat×SO):=[(4,.var 191 [bm,bm,.nil]),(5,.var 191 [bm,bm,.own 45]),(45,eQ),(1000,Hr)]
abbrev rf:Nat×SS:=(0,.st O')
abbrev ny:List (Nat×SS):=[iY,fO]
abbrev GU:SS:=.st vB
abbrev GS:Shape:=⟨[dm,jr],Q_s⟩
abbrev GR:Shape:=⟨[dP,bT],[]⟩
abbrev aeY:List (Nat×bo):=[(3865416,{ow:=[98],ps:=[(98,bj)]}),(7730834,{ow:=[110],ps:=[(110,bj)]})]
abbrev aeX:SO:=.var 113 [.v (.sl BU),lf,vj,Gz,vj,bm,.own 74]
abbrev aeW:List (Nat×SS):=[(2,.c lf),(4,ic),fO,N8,Bv,(13,.c (.ptr 13 0)),nA]
abbrev GQ:Nat×SS:=(3,.c (.own 24))
abbrev GP:Nat×SS:=(5,.c (.own 39))
abbrev GO:SS:=.c (.v (.sl vz))
abbrev ae4:Ky:=.q [2]
abbrev Oj:Nat×SS:=(3,.c (.own 18))
abbrev Oi:Nat×SS:=(5,.c (.own 25))
abbrev Oh:List (Nat×SO):=[(5000,gI)]
abbrev Og:Nat×SO:=(2,.var 376 (cT::ae5))
abbrev Vw:Nat×SO:=(2,.var 494 [cT,cT,cT,cT,bm])
abbrev ae3:List (Nat×Nat):=[(1001,1001),(1002,1002),(1003,1003),(1004,1004),(1005,1005),(1020,1020)]
abbrev aeE:Shape:=⟨(jq::bT::NX::(15,u6)::NZ),[(52,jL)]⟩
abbrev rb:Nat×SS:=(19,aU)
abbrev sT:Nat×SS:=(18,aU)
abbrev aeD:Shape:=⟨[bT,(5,.c (.own 29)),(17,nE),sT,rb],[(29,jL)]⟩
abbrev nx:SS:=.st Pc
abbrev N9:Shape:=⟨[(0,fo),dD],[]⟩
abbrev aeB:Shape:=⟨[s8,(18,.c u9),rb,(20,aU)],[(1,.var 163 [u9])]⟩
abbrev aeA:List (Nat×SO):=[(5102,lP),(5103,lP),(5104,.bF 154 vg By),(5105,lP)]
abbrev aez:List (Nat×SO):=((2,.var 110 Ih)::(4,Ow)::(5,.var 347 [bm,bm,.own 48])::(48,eQ)::Q_6)
abbrev j8:List (Nat×SS):=[s7]
abbrev aey:Shape:=⟨(dP::bT::iY::fO::gu::j8),[(4,G8),(5,nC),(6,G8)]⟩
abbrev aex:bo:={cut:=((.normal,⟨[cU,c9],[(2,pV),(3,pV)]⟩)::Ha)}
abbrev aew:Shape:=⟨[(0,.c (.v (.sl ku))),(1,.fn 358 [] [.v (.ptr ku)])],[]⟩
abbrev BH:Ky:=.u [50] false
abbrev BG:Ky:=.u [89] false
abbrev xC:SS:=.c VR
abbrev aet:Shape:=⟨[(6,.c (.ptr 16 0)),(17,xC),sT,rb],VE⟩
abbrev GK:SO:=.row 136 Hf
abbrev aes:bo:={cut:=[(.normal,⟨(cQ::bT::(2,lO)::j9::j8),gX⟩)]}
abbrev aer:bo:={cut:=[(.normal,⟨(cQ::bT::(2,lL)::j9::j8),ie⟩)]}
abbrev aeq:List (Nat×SO):=((2,.var 110 Ih)::(4,Ow)::(5,.var 449 [bm,.own 23])::(23,eQ)::Q_6)
abbrev BL:List (Nat×SS):=[(3000004,Hm)]
abbrev GI:SS:=.c (.own 61)
abbrev aeL:Shape:=⟨((1,GI)::afj),[(5,vE),(8,B1),(61,s6)]⟩
abbrev aeK:Shape:=⟨[jq,bT,GP,(49,nE),(50,aU),(51,aU)],[(39,jL)]⟩
abbrev GM:Ky:=.u [1000] false
abbrev aeJ:Nat×bo:=(254,{pre:=[.aY 705,.aY 704,.aY 702,.aY 703,.aY 701]})
abbrev GL:Nat×SO:=(2,.var 286 ae5)
abbrev aeI:bo:={loop:=some ⟨(cQ::bT::(2,lO)::j9::jN),gX⟩}
abbrev Vk:Nat×bo:=(6,{ow:=[11],ps:=[(11,bj)]})
abbrev BJ:SS:=.c (.own 59)
abbrev aeH:bo:={loop:=some ⟨(cQ::bT::(2,lL)::j9::jN),ie⟩}
abbrev uT:Ky:=.q [1003]
abbrev xE:List (Nat×SO):=[(5000,BY)]
abbrev aeG:List (Nat×SO):=[(2,.var 163 [.nil]),(5,.var 163 [.own 39]),(39,.row 434 s9)]
abbrev Vj:SS:=.c (.v (.sl xL))
abbrev BI:List (Nat×SS):=[dm,jM,dE]
abbrev aeF:SS:=.c (.ptr 12 0)
abbrev N':List Nat:=[5002,5003,5004,5005]
abbrev aeO:bo:={ow:=[27],ps:=[(27,cK)]}
abbrev Vp:bo:={ow:=[35],ps:=[(35,bj)]}
abbrev Vo:bo:={ow:=[16],ps:=[(16,bj)]}
abbrev Vn:bo:={ow:=[29],ps:=[(29,bj)]}
abbrev Vm:Shape:=⟨[jq,bT],[]⟩
abbrev aeM:bo:={cut:=[(.normal,⟨[jM,dE,c9,B0],Cs⟩)]}
abbrev uR:Nat×SS:=(0,Ot)
abbrev Ve:Nat×SS:=(1,.fn 175 [.ptr 1100 0] [])
abbrev aeg:List (Nat×Nat):=[(1001,1001),(1002,1002),(1003,1003),(1004,1004),(1005,1005)]
abbrev GB:SO:=.row 147 xL
abbrev N5:Shape:=⟨[rh],[]⟩
abbrev Vd:List (Nat×SS):=((5,aU)::oF)
abbrev xA:Nat×SO:=(1201,lP)
abbrev Bw:List (Nat×Nat):=[(1000,30)]
abbrev Vc:Bool×Shape:=(false,⟨(dE::jo),[]⟩)
abbrev aef:List (Nat×SO):=[gi,(1020,Ho),(1040,.var 123 [.own 1041]),(1041,lP)]
abbrev Vb:bo:={ow:=[8],ps:=[(8,cK)]}
abbrev uQ:SS:=.agg Ih
abbrev aee:Shape:=⟨(cQ::(3,ic)::(4,aU)::fJ),[(1000,gI)]⟩
abbrev aen:Nat×bo:=(29,{cut:=[(.normal,⟨[Hh],[(12,gI)]⟩)]})
abbrev aem:Nat×bo:=(58,{loop:=some ⟨(Hh::GN),[(12,gI)]⟩})
abbrev ael:Shape:=⟨((1,pT)::cU::Hh::oF),[(2,rC),(12,GK)]⟩
abbrev uS:Nat×Ky:=(9,bS)
abbrev aek:Nat×bo:=(29,{cut:=[(.normal,⟨[Vr],[(27,BY)]⟩)]})
abbrev GH:SS:=.c (.own 23)
abbrev aej:Nat×bo:=(26,{loop:=some ⟨((0,fo)::dD::fJ),[]⟩})
abbrev N6:Nat×SO:=(59,.row 374 VA)
abbrev atx:Nat×bo:=(58,{loop:=some ⟨(u5::(3,ic)::fp),[]⟩})
abbrev atw:Nat×bo:=(61,{cut:=[(.normal,⟨(uR::fJ),Oh⟩)]})
abbrev Vf:Bool×Shape:=(false,⟨[(4,Hg)],[]⟩)
abbrev aei:EK×Shape:=(.ret,⟨ny,[(4,.var 291 (cT::xP)),GV]⟩)
abbrev aeh:Bool×Shape:=(false,⟨[(3000004,.st tj),(3000005,Hm)],[]⟩)
abbrev BC:List (Nat×SO):=[(1020,xI)]
abbrev BB:List (Nat×SO):=[(1020,xJ)]
abbrev BA:List (Nat×SO):=[(1020,xO)]
abbrev Bz:List (Nat×SO):=[(1020,xK)]
abbrev BE:List (Nat×SO):=[(1020,xH)]
abbrev GJ:List (Nat×SS):=[(1,GU)]
abbrev aep:Shape:=⟨(dD::Oa::c9::(7,pT)::uX),[(3,rC)]⟩
abbrev aeo:Shape:=⟨(jq::GQ::(13,nE)::GN),[(24,jL)]⟩
abbrev xD:List (Nat×SS):=[(2,fo)]
abbrev ad7:Shape:=⟨(jM::afj),((5,vE)::(8,B1)::uY)⟩
abbrev N0:SS:=.st (.sl s9)
abbrev xz:Nat×SS:=(0,afl)
abbrev NY:Shape:=⟨[dm],lM⟩
abbrev xy:Nat×SS:=(12,aU)
abbrev atu:Nat×bo:=(29,{cut:=[(.normal,⟨[(3,ic)],[]⟩)]})
abbrev ad4:Shape:=⟨(cQ::bT::dE::(3,lO)::uX),gX⟩
abbrev ad3:Nat×SS:=(5,.c (.own 31))
abbrev U5:List (Nat×SS):=[ri,(12,ke),sW,nA]
abbrev ad2:Shape:=⟨(cQ::bT::dE::(3,lL)::uX),ie⟩
abbrev aed:List (Nat×SO):=((4,.var 405 [bm,cT,.own 45])::(45,eQ)::VM)
abbrev aec:bo:={cut:=[(.normal,⟨[jM],uY⟩)]}
abbrev atv:Shape:=⟨(nz::Od),[]⟩
abbrev Va:Shape:=⟨(jq::GJ),[]⟩
abbrev U9:Shape:=⟨[u5],[]⟩
abbrev aea:Nat×bo:=(6,{ow:=[8,10],ps:=[(8,cK),(10,cK)]})
abbrev ad9:List Gh:=[.aY 5005,.aY 5004,.aY 5002,.aY 5003]
abbrev ad8:Nat×bo:=(31,{pre:=[.aY 18]})
abbrev U7:Shape:=⟨[dm,bT],lM⟩
def aiT:FS:=mkG [WZ] [(29,{cut:=((.normal,cJ)::Hn)}),(58,{loop:=some ⟨[dP,sW,nA],[]⟩})] 407 cJ iI (k1 J7)
def Xk:FS:=mkG [Dh,aiT] [(61,Hb),(122,{loop:=some ⟨[(11,fo),xy,sW],[]⟩})] 353 cJ iI (k1 DT)
def P1:FS:=mkG [Xk] [(13,{cut:=((.normal,⟨[s8],[(1,nF)]⟩)::Hn)}),(26,{loop:=some ⟨(s8::(6,.agg B4)::j8),[(1,nF)]⟩})] 316 ⟨[(0,nx)],[]⟩ iI (k1 yz)
def WD:FS:=mkG [aiW,P1] [] 423 ⟨[(0,nx)],[]⟩ sZ (k1 IU)
def QP:FS:=mkG [] [] 410 N5 sZ (k1 EM)
def alf:FS:=mkQ [] [(30,{cut:=[(.normal,aey)]}),(60,{loop:=some aey}),(125,{cut:=[(.normal,⟨[iY,fO,gu],Pf⟩),(.ret,⟨ny,[(4,G8),(5,nC)]⟩)]}),(127,{pre:=[.aY 101,.aY 108]}),(250,{pre:=[.dR 6 1 101 (.row [] 9 .str []),.dR 6 2 108 (.row [] 3 gj [])],loop:=some ⟨(dP::bT::iY::fO::gu::jN),Pf⟩}),(16022,{cut:=[(.normal,Vv)]}),(32044,{loop:=some Vv}),(128189,{cut:=[(.normal,Vv),(.ret,⟨ny,[(4,G8),(5,nC)]⟩)]}),(256378,{loop:=some ⟨(dP::bT::iY::fO::gu::s7::(8,aU)::Bx),Pf⟩})] 156 GR [aeh] (k2 zO)
def Xf:FS:=mkQ [alf] [(61,{cut:=[(.normal,⟨[fO,(6,.c (.own 54))],Vi⟩),(.ret,⟨[(4,GC),fO],[(5,nC)]⟩)]}),(63,{pre:=[.aY 54]}),(122,{pre:=[.dI 6 54 (.row [] 214 tj [])],loop:=some ⟨(dP::bT::fO::(6,.c (.own 54))::jN),Vi⟩}),(3914,{cut:=[(.normal,ae1)]}),(7828,{loop:=some ae1})] 85 GR [(false,⟨[(4,ke),(3000005,Hm)],[]⟩)] (k2 DL)
def Rc:FS:=mkQ [Xf] [] 91 cJ [(false,⟨((2,ke)::uZ),[]⟩)] (k1 zZ)
def lh:FS:=mkQ [] [] 97 NY [(false,⟨[(2,jx)],lM⟩)] (k1 dJ)
def Dj:FS:=mkQ [lh] [(12,{ow:=[4],ps:=[(4,cK)]})] 92 NY [(false,⟨kX,lM⟩)] (k1 jz)
def lj:FS:=mkG [] [] 93 U7 [(false,⟨[],lM⟩)] (k2 fb)
def vP:FS:=mkG [lj,lh] [(2,{ow:=[7],ps:=[(7,cK)]}),(6,{ow:=[14],ps:=[(14,cK)]})] 94 ⟨[dm,bT,dE],lM⟩ [(false,⟨[],lM⟩)] (k3 fy)
def ahL:FS:=mkHh [] afn 343 ⟨[(0,uQ)],Ct⟩ [(false,⟨xD,Ct⟩)] (λo=>(o.1,o.2.1,o.2.2.1,o.2.2.2.1,o.2.2.2.2.1,o.2.2.2.2.2.1)) (λr=>(r.1,r.2.1,r.2.2.1,r.2.2.2.1,r.2.2.2.2.1,r.2.2.2.2.2,())) (λ_=>rfl) (λx=>Jw x.1 x.2.1 x.2.2.1 x.2.2.2.1 x.2.2.2.2.1)
def Xq:FS:=mkG [] [(29,Hb),(58,Oo)] 379 cJ iI (k1 zh)
def QU:FS:=mkG [Xq] [] 300 cJ iI (k1 wj)
def QA:FS:=mkG [] [(13,{cut:=[(.normal,cJ),(.ret,⟨[dE],[]⟩)]}),(26,Oo)] 301 cJ ve (k1 zu)
def XG:FS:=mkG [QU,QA] [] 299 cJ iI (k1 Eu)
def Kp:FS:=mkG [QU,XG,QA] [] 198 cJ iI (k1 wk)
def Ze:FS:=mkG [] [(61,{cut:=[(.normal,⟨(dP::Oi::oF),[(25,eQ)]⟩)]}),(63,{pre:=[.aY 25]}),(122,{pre:=[.dI 5 25 (.row [] 9 .str [])],loop:=some ⟨(dP::(1,BP)::Oi::j9::j8),[(25,eQ)]⟩})] 228 ⟨[dP,(1,BP)],[]⟩ Hd (k2 qy)
def DM:FS:=mkQ [] [(61,{cut:=[(.normal,⟨fp,[]⟩),(.ret,⟨[dE,(3,oJ)],[]⟩)]}),(122,{loop:=some ⟨(dP::(4,aU)::fJ),[]⟩})] 158 cJ [Vc] (k1 oZ)
def akl:FS:=mkQ [DM] [] 230 cJ [Vc] (k1 zw)
def XI:FS:=mkG [] [(13,Hb),(26,Oo)] 330 cJ iI (k1 zx)
def amm:FS:=mkG [XI] [(29,Hb),(58,Oo)] 231 cJ iI (k1 LG)
def Kq:FS:=mkQ [Ze,akl,amm] [(14,{cut:=[(.normal,⟨(dP::cU::fp),[GL]⟩)]}),(28,{loop:=some ⟨(dP::cU::fp),[GL]⟩}),(65533,{cut:=[(.normal,⟨[cU,gu],[GL,(6,pV)]⟩),(.ret,⟨[cU,(3,oJ)],[GL]⟩)]}),(131066,{loop:=some ⟨[cU,gu,sW],[GL,(6,pV)]⟩})] 145 cJ [(false,⟨((3000002,.st vC)::jo),[]⟩)] (k1 rP)
def aml:FS:=mkG [] [] 329 N5 sZ (k1 Sc)
def anQ:FS:=mkQ [Kq,aml] [(30,{cut:=[(.normal,⟨(dP::cU::fp),[Og]⟩)]}),(60,{loop:=some ⟨(dP::cU::fp),[Og]⟩}),(125,{cut:=[(.normal,⟨[cU],[Og]⟩),(.ret,⟨(cU::jo),[(2,.var 376 [cT,cT,cT,cT,qa])]⟩)]}),(250,{loop:=some ⟨(dP::cU::(4,aU)::fJ),[Og]⟩})] 229 cJ [(false,⟨((3000002,.st BF)::jo),[]⟩)] (k1 L5)
def X0:FS:=mkQ [Ze,anQ] [(125,{cut:=[(.normal,⟨[(5,BJ)],[N6]⟩),On]}),(127,{pre:=[.aY 59]}),(250,{pre:=[.dI 5 59 (.row [] 374 VA [])],loop:=some ⟨((4,fo)::(5,BJ)::oF),[N6]⟩}),(64079,{pre:=[.aY 55]}),(128157,{cut:=[(.normal,⟨[(4,fo),(5,BJ),j9,(8,.c (.own 55))],[(55,.row 376 BF),N6]⟩),On]}),(256314,{pre:=[.dI 8 55 (.row [] 376 BF [])],loop:=some ⟨[(4,fo),(5,BJ),j9,(7,fo),(8,.c (.own 55)),pR],[(55,.row 376 BF),N6]⟩})] 144 cJ [(false,⟨((2,BX)::jo),[]⟩)] (k1 E2)
def XF:FS:=mkQ [] [(61,{cut:=[(.normal,⟨[dP,(4,.c (.own 6))],[(6,gI)]⟩),On]}),(63,{pre:=[.aY 6]}),(117,{pre:=[.aY 6]}),(122,{loop:=some ⟨(dP::(4,.c (.own 6))::fJ),[(6,gI)]⟩})] 195 cJ [(false,⟨(U6::jo),[]⟩)] (k1 zt)
def Rb:FS:=mkQ [] [ae2,(122,{loop:=some ⟨(dP::(4,kg)::fJ),[]⟩})] 307 cJ [(false,⟨((2,kg)::jo),[]⟩)] (k1 nT)
def Q7:FS:=mkG [] [] 400 cJ iI (k1 zW)
def Q8:FS:=mkG [Kp,Xq,XG,Q7,QA] [] 341 cJ iI (k1 zX)
def aae:FS:=mkG [Rb,Kq,X0,Kp,Q8,QU,XF] [] 243 GR fv (k2 iL)
def qf:FS:=mkQ [lj,lh,Dj,aae] aeS 176 U7 [(false,⟨[(4,fa)],lM⟩)] (k2 eV)
def rU:FS:=mkG [] [(13,Ou),aej] 74 N9 fv (k2 nY)
def Qp:FS:=mkQ [lj,lh,qf,rU] [(6,{ow:=[10],ps:=[(10,cK)]}),(28,{ow:=[12],ps:=[(12,cK)]}),(58,Oe)] 342 ⟨(dm::bT::xD),lM⟩ [(false,⟨[(6,fa)],lM⟩)] (k3 kA)
def YF:FS:=mkG [] [] 401 ⟨[(0,kg)],[]⟩ ve (k1 Fs)
def amn:FS:=mkG [anU,YF] [] 344 ⟨[(0,kg)],[]⟩ sZ (k1 zY)
def Zd:FS:=mkQ [lj,lh,Dj,rU] aeS 345 ⟨[dm,(1,fo)],lM⟩ [(false,⟨[(4,fa)],lM⟩)] (k2 lA)
def ahM:FS:=mkHh [] afn 303 ⟨[(0,uQ)],Ct⟩ [(false,⟨xD,Ct⟩)] (λo=>(o.1,o.2.1,o.2.2.1,o.2.2.2.1,o.2.2.2.2.1,o.2.2.2.2.2.1)) (λr=>(r.1,r.2.1,r.2.2.1,r.2.2.2.1,r.2.2.2.2.1,r.2.2.2.2.2,())) (λ_=>rfl) (λx=>Jx x.1 x.2.1 x.2.2.1 x.2.2.2.1 x.2.2.2.2.1)
def Dk:FS:=mkQ [lh] [(6,{ow:=[4],kf:=[(1,GM),(5,eY),(6,eY),(9,eY),(10,eY),(11,eY),(12,bS)],ps:=[(4,cK)]})] 177 NY [(false,⟨[(2,jx)],lM⟩)] (k1 ky)
def WV:FS:=mkG [] [p9,(26,{loop:=some ⟨(dD::cU::fJ),[(2,rC)]⟩})] 306 ⟨[rf,dD],[]⟩ eJ (k2 vO)
def ajv:FS:=mkHh [lj,vP,lh,Dk,qf,ahM,Qp,Zd,rU,WV] [Vk,(14,{ow:=[14,15,18],ps:=[(14,aeg),(15,bj),(18,bj)]}),(30,{cut:=[(.normal,⟨(cU::ny),aez⟩)]}),(60,{un:=[.v 2 0,.v 2 1,.v 2 2,.v 2 3,.v 2 4],pre:=[.dR 5 2 48 (.row [] 9 .str [])],loop:=some ⟨(jr::cU::ny),aez⟩}),(62,{pre:=[.aY 48]}),(480,Of),(964,{ow:=[23],ps:=[(23,bj)]}),(3860,{ow:=[25],rd:=[29],ps:=[(25,bj)]}),(7722,{ow:=[33],ps:=[(33,bj)]}),(7724,{ow:=[35],rd:=[40],ps:=[(35,bj)]}),(15450,{ow:=[43],ps:=[(43,bj)]})] 346 ⟨[(0,uQ),jr],Cq⟩ [(false,⟨[(3000004,uQ)],Cq⟩)] (λo=>(o.1,o.2.1,o.2.2.1,o.2.2.2.1,o.2.2.2.2.1,o.2.2.2.2.2.1)) (λr=>(r.1,r.2.1,r.2.2.1,r.2.2.2.1,r.2.2.2.2.1,r.2.2.2.2.2,())) (λ_=>rfl) (λx=>QR x.1 x.2.1 x.2.2.1 x.2.2.2.1 x.2.2.2.2.1 x.2.2.2.2.2.1)
def akf:FS:=mkQ [] [(29,{cut:=[(.normal,⟨[Oj],[(18,eQ),(1000,oG)]⟩)]}),ad8,(58,{pre:=[.dI 3 18 (.row [] 9 .str [])],loop:=some ⟨(cQ::Oj::fp),[(18,eQ),(1000,oG)]⟩})] 347 ⟨[cQ],[(1000,oG)]⟩ [(false,⟨xD,[(1000,oG)]⟩)] (k1 Er)
def ak7:FS:=mkQ [] [(29,{cut:=[(.normal,⟨[Oj],[(18,eQ),(1000,uW)]⟩)]}),ad8,(58,{pre:=[.dI 3 18 (.row [] 9 .str [])],loop:=some ⟨(cQ::Oj::fp),[(18,eQ),(1000,uW)]⟩})] 403 ⟨[cQ],[(1000,uW)]⟩ [(false,⟨xD,[(1000,uW)]⟩)] (k1 K8)
def ak5:FS:=mkHh [lj,lh,qf,rU] [(6,{ow:=[10],ps:=[(10,cK)]}),(28,{ow:=[12],rd:=[16],ps:=[(12,cK)]}),(58,Oe)] 342 ⟨[dm,bT,(2,.c (.own 1040))],[(1000,vA),(1040,eQ)]⟩ [(false,⟨[(6,fa)],[(1000,vA),(1040,eQ)]⟩)] (λo=>(o.1,o.2.1,o.2.2.1)) (λr=>(r.1,r.2.1,r.2.2,())) (λ_=>rfl) (k3 K7)
def akd:FS:=mkHh [vP,Dk,qf,ak7,ak5,Qp] [Vk,(14,{ow:=[15,16],ps:=[(15,[(1000,1004)]),(16,bj)]}),(30,{ow:=[21],kf:=[(0,oE),(1,oE),(3,oI),(5,.u [23] false),(6,oE),(7,.u [5] false)],ps:=[(21,bj)]}),(62,{cut:=[(.normal,⟨(cU::ny),aeq⟩)]}),(124,{un:=[.v 2 3],loop:=some ⟨(jr::cU::ny),aeq⟩}),(126,{pre:=[.aY 23]}),(992,{ow:=[26],ps:=[(26,bj)]}),(1988,{ow:=[30],ps:=[(30,[nB,(1040,23)])]}),(3978,{un:=[.v 5 1],ow:=[35],ps:=[(35,bj)]})] 348 ⟨[(0,uQ),jr],Cq⟩ [(false,⟨[(3000004,uQ)],Cq⟩)] (λo=>(o.1,o.2.1,o.2.2.1,o.2.2.2.1,o.2.2.2.2.1,o.2.2.2.2.2.1)) (λr=>(r.1,r.2.1,r.2.2.1,r.2.2.2.1,r.2.2.2.2.1,r.2.2.2.2.2,())) (λ_=>rfl) (λx=>Q6 x.1 x.2.1 x.2.2.1 x.2.2.2.1 x.2.2.2.2.1 x.2.2.2.2.2.1)
def akc:FS:=mkHh [lj,vP,qf,akf,ahL,ajv,Qp,akd,Zd,Rb,amn] [(15,{un:=[.v 6 1,.v 6 2,.v 6 3,.v 6 4]}),(212,Of),(426,{ow:=[24,25],ps:=[(24,aeg),(25,bj)]}),(430,{ow:=[50],ps:=[(50,ae3)]}),(854,Vn),(3422,{ow:=[38],ps:=[(38,bj)]}),(3423,{un:=[.v 3 0]}),(3452,{ow:=[57],ps:=[(57,bj)]}),(6906,{ow:=[61,62],ps:=[(61,[(1000,1003)]),(62,bj)]}),(6907,{un:=[.v 3 2],ow:=[67],kf:=[(0,dC),(1,dC),(4,oI),(7,.u [1003] false),(8,dC),(9,xG)],ps:=[(67,bj)]}),(6910,{ow:=[76],ps:=[(76,ae3)]}),(27647,{ow:=[14],ps:=[(14,bj)]}),(55292,{ow:=[83],ps:=[(83,bj)]}),(110586,{ow:=[87,88],ps:=[(87,[(1000,1005)]),(88,bj)]}),(110587,{un:=[.v 3 4],ow:=[93],kf:=[(0,dC),(1,dC),(4,oI),(7,.u [1005] false),(8,dC),(9,xG)],ps:=[(93,bj)]})] 245 ⟨((0,uQ)::jr::kX),Cq⟩ [(false,⟨[(3000006,uQ)],Cq⟩)] (λo=>(o.1,o.2.1,o.2.2.1,o.2.2.2.1,o.2.2.2.2.1,o.2.2.2.2.2.1)) (λr=>(r.1,r.2.1,r.2.2.1,r.2.2.2.1,r.2.2.2.2.1,r.2.2.2.2.2,())) (λ_=>rfl) (λx=>mO x.1 x.2.1 x.2.2.1 x.2.2.2.1 x.2.2.2.2.1 x.2.2.2.2.2.1 x.2.2.2.2.2.2.1)
def Qk:FS:=mkG [lj,Dk] [(2,{ow:=[3],ps:=[(3,cK)]}),(13,{ow:=[12],ps:=[(12,cK)]})] 96 NY [(false,⟨[],lM⟩)] (k1 gM)
def ak6:FS:=mkQ [Qk,lj,lh,Dj,akc,Rc] [(116,vi),(125,{cut:=[(.normal,⟨[cU,c9,(4,ke),gu],afo⟩),(.ret,⟨[cU,c9],[(2,Ow),(3,nC)]⟩)]}),(250,{pre:=[.dR 6 0 700 (.row [] 349 BU []),.dR 6 1 701 (.row [] 347 mJ []),.dR 6 2 702 (.row [] 392 rB []),.dR 6 3 703 (.row [] 449 Hk []),.dR 6 4 704 (.row [] 392 rB [])],loop:=some ⟨(cU::c9::(4,ke)::gu::j8),afo⟩}),(255,{pre:=[.aY 700,.aY 701,.aY 702,.aY 703,.aY 704]}),(16018,{ow:=[33],ps:=[(33,[(1000,31)])]}),(64078,{ow:=[45],ps:=[(45,[(1000,31)])]}),(128154,{ow:=[39],ps:=[(39,[(1001,700),(1002,701),(1003,702),(1004,703),(1005,704),(1020,31)])]}),(128158,{ow:=[47],ps:=[(47,[(1000,31)])]}),(512622,{ow:=[43],ps:=[(43,[(1000,31)])]}),(512636,{kf:=[(3,.q [31]),(4,.q [31]),(5,Ol),(6,xG)]})] 164 cJ [(false,⟨((3000002,.st O')::uZ),[]⟩)] (k1 zK)
def YA:FS:=mkQ [] [(13,{cut:=[xN,(.ret,⟨[(4,fa),(5,aeZ)],[]⟩)]}),(26,{loop:=some ⟨(nz::dD::oF),[]⟩})] 165 ⟨[nz,dD],[]⟩ G3 (k2 wE)
def amk:FS:=mkG [] [] 349 ⟨((0,.st yg)::dD::kX),[]⟩ BW (k3 Fq)
def ak8:FS:=mkHh [lj,vP,lh,Dk,qf,amk] [Vk,(14,{ow:=[13,15],ps:=[(13,bj),(15,bj)]}),(61,{cut:=[(.normal,⟨(jr::cU::ny),aeP⟩)]}),(62,{ow:=[41],ps:=[(41,bj)]}),(122,{loop:=some ⟨(jr::cU::iY::fO::oF),aeP⟩}),(126,{ow:=[44],ps:=[(44,bj)]}),(508,{ow:=[47],kf:=[(1,oI),(5,.q [1020]),(6,.q [1020]),(7,.q [1020]),(10,.q [1020]),(11,.q [1020]),(12,bS),(13,bS)],ps:=[(47,bj)]}),(510,{pre:=ad9,post:=[.oL 5005 (.row [] 191 a0b []),.dR 1001 5 5002 (.row [] 191 a0b []),.dR 1001 6 5003 (.row [] 191 a0b []),.dR 1001 7 5004 (.bF [] 138 (.pair .str (.sl a0b)) true [] [.v .str [],.ow 5005 0 .all])],rd:=[73]}),(3912,{ow:=[25],rd:=[36],kf:=[(1,oI),(3,ae4),(4,ae4),(6,.q [1001]),(7,.q [1001]),(8,oE),(9,oE),(10,oE),(11,oE),(12,.w)],ps:=[(25,bj)]}),(7826,{ow:=[39],ps:=[(39,bj)]})] 246 ⟨[(0,.agg N2),jr],(VQ::(1020,vA)::VD)⟩ [(false,⟨[(3000004,.agg N2)],(VQ::(1020,vA)::VD)⟩)] (λo=>(o.1,o.2.1,o.2.2.1,o.2.2.2.1,o.2.2.2.2.1,o.2.2.2.2.2.1,o.2.2.2.2.2.2.1,o.2.2.2.2.2.2.2.1,o.2.2.2.2.2.2.2.2.1,o.2.2.2.2.2.2.2.2.2.1,o.2.2.2.2.2.2.2.2.2.2.1,o.2.2.2.2.2.2.2.2.2.2.2.1,o.2.2.2.2.2.2.2.2.2.2.2.2.1,o.2.2.2.2.2.2.2.2.2.2.2.2.2.1,o.2.2.2.2.2.2.2.2.2.2.2.2.2.2.1)) (λr=>(r.1,r.2.1,r.2.2.1,r.2.2.2.1,r.2.2.2.2.1,r.2.2.2.2.2.1,r.2.2.2.2.2.2.1,r.2.2.2.2.2.2.2.1,r.2.2.2.2.2.2.2.2.1,r.2.2.2.2.2.2.2.2.2.1,r.2.2.2.2.2.2.2.2.2.2.1,r.2.2.2.2.2.2.2.2.2.2.2.1,r.2.2.2.2.2.2.2.2.2.2.2.2.1,r.2.2.2.2.2.2.2.2.2.2.2.2.2.1,r.2.2.2.2.2.2.2.2.2.2.2.2.2.2,())) (λ_=>rfl) (λx=>E1 x.1 x.2.1 x.2.2.1 x.2.2.2.1 x.2.2.2.2.1 x.2.2.2.2.2.1 x.2.2.2.2.2.2.1 x.2.2.2.2.2.2.2.1 x.2.2.2.2.2.2.2.2.1 x.2.2.2.2.2.2.2.2.2.1 x.2.2.2.2.2.2.2.2.2.2.1 x.2.2.2.2.2.2.2.2.2.2.2.1 x.2.2.2.2.2.2.2.2.2.2.2.2.1 x.2.2.2.2.2.2.2.2.2.2.2.2.2.1 x.2.2.2.2.2.2.2.2.2.2.2.2.2.2.1)
def Qh:FS:=mkQ [lj,lh,Dk,qf,rU] [aea,(14,{cut:=[(.normal,⟨ny,ae0⟩)]}),(28,{pre:=[.dR 5 2 45 (.row [] 9 .str [])],loop:=some ⟨(dm::bT::ny),ae0⟩}),(31,{pre:=[.aY 45]}),(224,{ow:=[16],ps:=[(16,cK)]}),(452,Oe),(1812,{ow:=[21],rd:=[26],ps:=[(21,cK)]}),(3626,{ow:=[29],ps:=[(29,cK)]}),(3628,{ow:=[31],ps:=[(31,cK)]}),(7258,{ow:=[40],ps:=[(40,cK)]})] 95 U7 [(false,⟨[(3000004,.st mJ)],lM⟩)] (k2 fx)
def ai0:FS:=mkHh [lj,vP,lh,Qh,qf] ((938,Vp)::afc::(1874,{ow:=[30],ps:=[(30,bj)]})::(3775,Vo)::(7540,{ow:=[51],ps:=[(51,bj)]})::afd::(7542,{ow:=[67],ps:=[(67,bj)]})::(7543,{ow:=[78],kf:=[(0,dC),(1,dC),(3,dC),(4,dC),(6,uT),(7,uT),(8,uT),(10,oI),(12,.u [80] false)],ps:=[(78,bj)]})::(7548,{ow:=[89],ps:=[(89,bj)]})::(15098,{ow:=[91],ps:=[(91,bj)]})::(30199,{post:=[.dR 1003 1 1004 (.row [] 191 a0b [])],rd:=[115]})::(60397,{cut:=[(.normal,⟨[c9,gu,(8,fa)],aeT⟩)]})::(120794,{loop:=some ⟨[jr,c9,gu,s7,(8,fa),pR],aeT⟩})::aeY) 247 ⟨((0,.agg B3)::jr::kX),[(1001,lZ),N7,(1003,.bF 138 ta [bm,lf]),(1020,vA)]⟩ [(false,⟨[(3000006,.agg B3)],VF⟩)] (λo=>(o.1,o.2.1,o.2.2.1,o.2.2.2.1,o.2.2.2.2.1,o.2.2.2.2.2.1,o.2.2.2.2.2.2.1,o.2.2.2.2.2.2.2.1,o.2.2.2.2.2.2.2.2.1,o.2.2.2.2.2.2.2.2.2.1,o.2.2.2.2.2.2.2.2.2.2.1,o.2.2.2.2.2.2.2.2.2.2.2.1)) (λr=>(r.1,r.2.1,r.2.2.1,r.2.2.2.1,r.2.2.2.2.1,r.2.2.2.2.2.1,r.2.2.2.2.2.2.1,r.2.2.2.2.2.2.2.1,r.2.2.2.2.2.2.2.2.1,r.2.2.2.2.2.2.2.2.2.1,r.2.2.2.2.2.2.2.2.2.2.1,r.2.2.2.2.2.2.2.2.2.2.2,())) (λ_=>rfl) (λx=>Kb x.1 x.2.1 x.2.2.1 x.2.2.2.1 x.2.2.2.2.1 x.2.2.2.2.2.1 x.2.2.2.2.2.2.1 x.2.2.2.2.2.2.2.1 x.2.2.2.2.2.2.2.2.1 x.2.2.2.2.2.2.2.2.2.1 x.2.2.2.2.2.2.2.2.2.2.1 x.2.2.2.2.2.2.2.2.2.2.2.1 x.2.2.2.2.2.2.2.2.2.2.2.2.1)
def aiY:FS:=mkHh [lj,vP,lh,Qh,qf] ((938,Vp)::afc::(1874,{ow:=[30],ps:=[(30,bj)]})::(3775,Vo)::(7540,{ow:=[51],ps:=[(51,bj)]})::afd::(7542,{ow:=[67],ps:=[(67,bj)]})::(7543,{ow:=[78],kf:=[(0,dC),(1,dC),(3,dC),(4,dC),(6,uT),(7,uT),(8,uT),(10,oI),(12,.u [1004] false),(13,uT),(14,uT),(15,.u [1003] false)],ps:=[(78,bj)]})::(7548,{ow:=[89],ps:=[(89,bj)]})::(15098,{ow:=[91],ps:=[(91,bj)]})::(30199,{rd:=[115]})::(60397,{cut:=[(.normal,⟨[c9,gu,(8,fa)],ae9⟩)]})::(120794,{loop:=some ⟨[jr,c9,gu,s7,(8,fa),pR],ae9⟩})::aeY) 247 ⟨((0,.agg B3)::jr::kX),VF⟩ [(false,⟨[(3000006,.agg B3)],VF⟩)] (λo=>(o.1,o.2.1,o.2.2.1,o.2.2.2.1,o.2.2.2.2.1,o.2.2.2.2.2.1,o.2.2.2.2.2.2.1,o.2.2.2.2.2.2.2.1,o.2.2.2.2.2.2.2.2.1,o.2.2.2.2.2.2.2.2.2.1,o.2.2.2.2.2.2.2.2.2.2.1,o.2.2.2.2.2.2.2.2.2.2.2.1)) (λr=>(r.1,r.2.1,r.2.2.1,r.2.2.2.1,r.2.2.2.2.1,r.2.2.2.2.2.1,r.2.2.2.2.2.2.1,r.2.2.2.2.2.2.2.1,r.2.2.2.2.2.2.2.2.1,r.2.2.2.2.2.2.2.2.2.1,r.2.2.2.2.2.2.2.2.2.2.1,r.2.2.2.2.2.2.2.2.2.2.2,())) (λ_=>rfl) (λx=>y6 x.1 x.2.1 x.2.2.1 x.2.2.2.1 x.2.2.2.2.1 x.2.2.2.2.2.1 x.2.2.2.2.2.2.1 x.2.2.2.2.2.2.2.1 x.2.2.2.2.2.2.2.2.1 x.2.2.2.2.2.2.2.2.2.1 x.2.2.2.2.2.2.2.2.2.2.1 x.2.2.2.2.2.2.2.2.2.2.2.1 x.2.2.2.2.2.2.2.2.2.2.2.2.1)
def ak9:FS:=mkQ [Qk,lj,lh,qf,Dj,ak8,ai0,aiY,Rc] [(30,{post:=[.oL 702 (.row [] 191 a0b []),.oL 703 (.row [] 191 a0b []),.oL 705 (.row [] 191 a0b []),.oL 704 (.bF [] 138 (.pair .str (.sl a0b)) true [] [.v .str [],.ow 705 0 .all]),.dR 6 1 701 (.bF [] 134 (.pair .str (.pair .str (.pair .str (.pair .str (.pair .bool (.pair (.sl a0b) (.pair (.sl a0b) (.sl (.pair .str (.sl a0b)))))))))) true [] [.v .str [],.v .str [],.v .str [],.v .str [],.v .bool false,.ow 702 0 .all,.ow 703 0 .all,.ow 704 0 .all])]}),(116,vi),(125,{cut:=[(.normal,⟨[cU,c9,(4,ke),gu],afg⟩),(.ret,⟨[cU,c9],[(2,UZ),(3,nC)]⟩)]}),(250,{loop:=some ⟨(cU::c9::(4,ke)::gu::j8),afg⟩}),aeJ,(16018,{ow:=[34],ps:=[(34,[(1000,32)])]}),(128158,{ow:=[74],ps:=[(74,[(1000,32)])]}),(256318,{ow:=[76],ps:=[(76,[(1000,32)])]}),(1025253,{ow:=[60],ps:=[(60,[(1000,32)])]}),(1025276,{kf:=[(3,.q [32]),(4,.q [32]),(5,Ol),(6,xG)]}),(2050510,{cn:=[(2,[702,703,704,705])],ps:=[(67,[(1001,701),(1020,32),(5002,702),(5003,703),(5004,704),(5005,705)])]}),(4101010,{ow:=[58],ps:=[(58,[(1000,32)])]}),(8202046,{ow:=[72],ps:=[(72,[(1000,32)])]}),(8202047,{ow:=[50],kf:=[(0,.q [6]),(1,.q [6]),(4,.q [6]),(5,.q [6]),(8,.q [701]),(9,.q [701]),(12,.u [702,703,704,705,32] false),(13,.q [701]),(14,.u [701] false)],cs:=some (9,[102,101,97,116,117,114,101],[.aY 705]),ps:=[(50,[(1001,702),(1002,703),(1003,704),(1004,705),(1020,32)])]})] 166 cJ [(false,⟨((3000002,.st vf)::uZ),[]⟩)] (k1 zL)
def amj:FS:=mkQ [rU,ak9,YA,ak6] [(509,{cut:=[(.normal,⟨[gu,(11,jx),(12,aeF)],[(6,.var 113 Om),(12,aeX),(74,.row 252 vf)]⟩),(.ret,⟨[gu,(7,oJ)],[(6,.var 113 Om)]⟩)]}),(511,{pre:=[.aY 74]}),(1018,{pre:=[.dI 13 69 (.row [] 9 .str []),.dR 12 6 74 (.row [] 252 vf [])],loop:=some ⟨[(2,fo),gu,(11,jx),(12,aeF),(13,.c (.own 69)),nA],[(6,.var 113 Om),(12,aeX),(69,eQ),(74,.row 252 vf)]⟩}),(130340,{rd:=[62]})] 87 ⟨(dP::dD::xD),[]⟩ [(false,⟨[(3000006,.st (.pair O' (.pair .str (.sl vf)))),(7,jx)],[]⟩)] (k3 Fo)
def ajJ:FS:=mkG [] [] 333 ⟨[(0,BP)],[]⟩ iI (k1 D')
def ajI:FS:=mkQ [ajJ,JY] [(61,{cut:=[(.normal,⟨[iY,fO,gu],Pe⟩),aei]}),(63,{pre:=[.aY 85,.aY 92]}),(122,{pre:=[.dR 6 1 85 (.row [] 9 .str []),.dR 6 2 92 (.row [] 3 gj [])],loop:=some ⟨(rh::dD::iY::fO::gu::j8),Pe⟩}),(7830,{cut:=[(.normal,Vt)]}),(15660,{loop:=some Vt}),(62653,{cut:=[(.normal,Vt),aei]}),(125306,{loop:=some ⟨(rh::dD::iY::fO::gu::s7::vh),Pe⟩})] 234 ⟨[rh,dD],[]⟩ [aeh] (k2 zl)
def XN:FS:=mkQ [ajI,JY] [(29,{cut:=[(.normal,⟨[fO,(6,GD)],[GV,(47,.row 291 tj)]⟩),(.ret,⟨[(4,GC),fO],[GV]⟩)]}),(31,{pre:=[.aY 47]}),(58,{pre:=[.dI 6 47 (.row [] 291 tj [])],loop:=some ⟨[bT,fO,(6,GD),s7,(8,fa)],[GV,(47,.row 291 tj)]⟩})] 149 GR [(false,⟨[(4,ke),(3000005,Hm)],[]⟩)] (k2 ED)
def Bu{α:Type}(n:Nat)(R:World->List Value->α->Prop)(w:World)(v:Value)(l:List α):Prop:=
 ∃a cap,v=.slice a l.length cap/\∀(i:Nat) (h:i<l.length),∃b off cs,a=some ⟨b,off,none⟩/\b<w.heap.size/\Cells w b (off+i*n) n cs/\R w cs l[i]
theorem acr{t:Ty}{R:World->List Value->den t->Prop}{c:Cx}{h:Hp}{w:World}{v:Value}{l:List (den t)}(N:0<wid t)(hR:∀x∈l,∀cs:List Value,au (CR c h w) cs (cA t x)->R w cs x)(U:CR c h w v (.v (.sl t) l)):Bu (wid t) R w v l:=by
 obtain⟨xs,⟨Z,a,cap,rfl,L⟩,Y⟩:=R7 U;refine⟨a,cap,rfl,λi J=>?_⟩;rcases L with h0|⟨b,o,rfl,hc⟩
 ·omega
 ·obtain⟨r,O⟩:=E' (au4 J);have h2:=Y.drop (i*wid t);rw[O]at h2;have F:=h2.take (cA t l[i]).length;rw[List.take_left,ja]at F;have hlen:((xs.drop (i*wid t)).take (wid t)).length=wid t:=by rw[F.len,ja]
  have key:∀j,j<wid t->w.cell? ⟨b,o+i*wid t+j,none⟩=some (((xs.drop (i*wid t)).take (wid t)).getD j undef):=λj D=>by
   have M:j<((xs.drop (i*wid t)).take (wid t)).length:=by omega
   rw[Nat.add_assoc];refine hc _ _ ?_;rw[aC3,aF0 D,List.getElem?_drop];have:i*wid t+j<xs.length:=by simp only[aw7,ay3]at M;omega
   rw[au4 this];rfl
  exact⟨b,o,_,rfl,World.block_lt_of_cell? w _ (key 0 N),⟨hlen,λj D=>by rw[key j D,aC3,au4 (by rw[hlen];exact D)];rfl⟩,hR _ (at2 J) _ F⟩
def Um(c:cY):List Value:=.int .i64 c.1::Gg c.2
def Us(w:World)(cs:List Value)(c:cY):Prop:=cs=Um c
def afu(w:World)(cs:List Value)(a:List cY):Prop:= ∃v,cs=[v]/\Bu 5 Us w v a
abbrev OP:Ty:=.pair (.int .i64) (.pair (.pair (.int .i64) (.pair (.int .i64) (.int .i64))) .str)
theorem anG{c:Cx}{h:Hp}{w:World}{v:Value}{r:List (List cY)}(J:CR c h w v (.v (.sl (.sl OP)) r)):Bu 1 afu w v r:=
 acr (t:=.sl OP) (by decide) (λa _ cs D=>by obtain⟨x,rfl,L⟩:=tU D;exact⟨x,rfl,acr (t:=OP) (by decide) (λc _ cs F=>Ap F rfl) L⟩) J
theorem anb(v:cN)(h:fT v)(w:World)(O:TabOk w.heap[tabB]?):
  Calls at1 423 #[.agg (Gg v).toArray] w λe w'=>e=.returned (.string ⟨(kR v).toArray⟩)/\Below w.heap.size w w':=by
 have L:WD.F _ (v,()) some=some (kR v,()):=by show(IU v).bind _=_;rw[aqM v h];rfl
 obtain⟨o,h1,h2⟩:=WD.ok _ _ _ _ L;have D:=(Option.some.inj h1);subst D;have J:fw at1 423 [.agg (cA (.pair (.pair (.int .i64) (.pair (.int .i64) (.int .i64))) .str) v)] [] (.ret (.c (.v .str (kR v))) []):=h2;refine(J.run (A:=λ_ _=>False) (vals:=[.agg (Gg v).toArray]) (λ_ _ q=>q.elim) O (.cons (FI rfl) .nil)).mono ?_;rintro e w' ⟨x,c',rfl,M,N⟩;exact⟨by rw[FQ N rfl],M.below⟩
theorem ao6(op:Int)(w:World)(O:TabOk w.heap[tabB]?):
  Calls at1 410 #[.int .i64 op] w λe w'=>e=.returned (.string ⟨(bW op).toArray⟩)/\Below w.heap.size w w':=by
 have L:QP.F _ (op,()) some=some (bW op,()):=by show(EM op).bind _=_;rw[Qy op];rfl
 obtain⟨o,h1,h2⟩:=QP.ok _ _ _ _ L;have D:=(Option.some.inj h1);subst D;have J:fw at1 410 [.c (.v (.int .i64) op)] [] (.ret (.c (.v .str (bW op))) []):=h2;refine(J.run (A:=λ_ _=>False) (vals:=[.int .i64 op]) (λ_ _ q=>q.elim) O (.cons (FI rfl) .nil)).mono ?_;rintro e w' ⟨x,c',rfl,M,N⟩;exact⟨by rw[FQ N rfl],M.below⟩
theorem aby{α:Type}{n:Nat}{R:World->List Value->α->Prop}{w:World}{a:Option Addr}{len cap:Nat}{l:List α}(h:Bu n R w (.slice a len cap) l)(i:Nat)(F:i<l.length):
  ∃b off cs,a=some ⟨b,off,none⟩/\b<w.heap.size/\Cells w b (off+i*n) n cs/\R w cs l[i]:=by
 obtain⟨J,L,e,h⟩:=h;injection e with D M N;subst D;exact h i F
theorem Y4{w w':World}(D:TabOk w.heap[tabB]?)(F:Below w.heap.size w w'):TabOk w'.heap[tabB]? :=by rw[F.block _ D.lt];exact D
theorem Yo{T e:TypeId}{B b:Nat}{p:Value}{bs:List Value}{W J:World}(h:Lib.BuilderAtF T e B b p bs W)(D:Below W.heap.size W J):Lib.BuilderAtF T e B b p bs J:=by
 have M:b<W.heap.size:=by obtain⟨_,v,F,_⟩:=h;exact wc F
 obtain⟨L,v,F,O,N⟩:=h;exact⟨L,v,(D.block b M).trans F,O.kept (row:=none) ⟨D.os,D.tape,D.output,D.size,λk hk _=>D.block k hk⟩ (Classical.em _),N⟩
theorem RU{T e:TypeId}{B b:Nat}{bs:List Value}{W D:World}(h:Lib.IsBuilderF T e B b bs W)(F:Below W.heap.size W D):Lib.IsBuilderF T e B b bs D:=
 h.elim (λx=>.inl (Yo x F)) (λx=>.inr (Yo x F))
def Wr(B:Nat)(X:List UInt8)(w:World):Prop:=Lib.IsBuilderF 528 5 B B (Lib.byteCells X) w
theorem Y1(B:Nat)(X:List UInt8)(c:UInt8)(w:World)(h:Wr B X w)(hlen:X.length+1<=140737488355328)(F:B<=w.heap.size):
  Calls at1 421 #[.pointer (some ⟨B,0,none⟩),.int .u8 (c.toNat:Int)] w λe w'=>e=.returned .nilIface/\Wr B (X++[c]) w'/\Below B w w'/\Lib.OthersKept 5 (some B) w w':=by
 refine(Any.Builder_WriteByte_k Tryz.mW Tryz.Qx B B (Lib.byteCells X) (c.toNat:Int) w h (by rw[Lib.byteCells_length];exact hlen) F).mono ?_
 rintro e w' ⟨rfl,h1,h2,D⟩;refine⟨rfl,.inr ?_,h2,D⟩;rw[Lib.byteCells_append];exact h1
theorem Z1(B:Nat)(X s:List UInt8)(w:World)(h:Wr B X w)(hlen:X.length+s.length<=140737488355328)(F:B<=w.heap.size):
  Calls at1 422 #[.pointer (some ⟨B,0,none⟩),.string ⟨s.toArray⟩] w λe w'=>e=.returned (.tuple #[.int .i64 s.length,.nilIface])/\Wr B (X++s) w'/\Below B w w'/\Lib.OthersKept 5 (some B) w w':=by
 refine(Any.Builder_WriteString_k Tryz.Fu Tryz.Qx B B (Lib.byteCells X) ⟨s.toArray⟩ w h (by rw[Lib.byteCells_length];exact hlen) F).mono ?_
 rintro e w' ⟨rfl,h1,h2,D⟩;refine⟨rfl,.inr ?_,h2,D⟩;rw[Lib.byteCells_append];exact h1
theorem aqs(B:Nat)(X:List UInt8)(w:World)(h:Wr B X w)(D:B<=w.heap.size):
  Calls at1 424 #[.pointer (some ⟨B,0,none⟩)] w λe w'=>e=.returned (.string ⟨X.toArray⟩)/\Below B w w':=
 (Any.Builder_String_any_k Tryz.apN Tryz.Qx B B X w h D).mono λe w' ⟨h1,_,h2,_⟩=>⟨h1,h2⟩
theorem FX{B:Nat}{X:List UInt8}{w:World}(h:Wr B X w):B<w.heap.size:=by rcases h with⟨_,v,D,_⟩|⟨_,v,D,_⟩<;>exact wc D
def pM(a:List cY):List UInt8:=dj 44 (a.map fR)
def gU(c:UInt8)(k:Nat):List UInt8:=if 0<k then[c]else[]
theorem Rn(c:UInt8):∀(l:List (List UInt8)) (k:Nat) (h:k<l.length),dj c (l.take (k+1))=(dj c (l.take k)++gU c k)++l[k]
 |x::t,0,_=>by simp [dj,gU]
 |x::y::t,k+1,h=>by
  have J:=Rn c (y::t) k (by simpa using h)
  have D:dj c ((x::y::t).take (k+1+1))=x++c::dj c ((y::t).take (k+1)):=by rw[aE8,aE8];rfl
  rw[D,J];cases k with
  |zero=>simp [dj,gU]
  |succ k=>
   have F:dj c ((x::y::t).take (k+1+1))=x++c::dj c ((y::t).take (k+1)):=by rw[aE8,aE8];rfl
   rw[F];simp [gU]
 |[x],k+1,h=>by simp at h
 |[],k,h=>by simp at h
theorem RM(c:UInt8)(M:Nat):∀(l:List (List UInt8)),(∀x∈l,x.length<=M)->(dj c l).length<=l.length*(M+1)
 |[],_=>au2 _
 |[x],h=>by have:=h x (by simp);simp [dj];omega
 |x::y::t,h=>by
  have h1:=h x (by simp)
  have F:=RM c M (y::t) (λz D=>h z (ax5 _ D));have e:dj c (x::y::t)=x++c::dj c (y::t):=rfl;rw[e,au5,av1];have:(x::y::t).length=(y::t).length+1:=rfl;rw[this,Nat.add_mul];omega
theorem ZO(c:cY)(h:c.1=8\/fT c.2):(fR c).length<=30000:=by
 have hs:(bW c.1).length<=2:=by unfold bW;(repeat' split)<;>decide
 unfold fR;rw[au5];by_cases e:c.1=8
 ·rw[if_pos e];simp;omega
 ·rw[if_neg e];rcases h with h|h
  ·exact absurd h e
  ·have h0:=h.1;obtain⟨⟨D,a2⟩,⟨F,J⟩,c1,c2⟩:=h.num;have L:=zA 5 c.2.1.1.toNat (by omega)
   have M:=zA 5 c.2.1.2.1.toNat (by omega)
   have N:=zA 5 c.2.1.2.2.toNat (by omega)
   have O:=h.2;have:(kR c.2).length<=20100:=by unfold kR;rw[if_pos h0];split<;>simp only[au5,av1,ay2]<;>omega
   omega
theorem ZY(a:List cY)(k:Nat)(J:a.length<=100)(h:∀c∈a,c.1=8\/fT c.2):(dj 44 ((a.map fR).take k)).length<=3100000:=by
 have:=RM 44 30000 ((a.map fR).take k) (λx D=>by obtain⟨c,hc,rfl⟩:=ax1.1 (aI6 D);exact ZO c (h c hc))
 have h2:((a.map fR).take k).length<=100:=by rw[aw7,au1];omega
 have F:=az8 30001 h2;omega
theorem amd(r:List (List cY))(k:Nat)(L:r.length<=100)(D:∀a∈r,a.length<=100)(h:∀a∈r,∀c∈a,c.1=8\/fT c.2):(dj 124 ((r.map pM).take k)).length<=400000000:=by
 have:=RM 124 3100000 ((r.map pM).take k) (λx F=>by obtain⟨a,hm,rfl⟩:=ax1.1 (aI6 F);have:=ZY a (a.map fR).length (D a hm) (h a hm);rw[ax6]at this;exact this)
 have h2:((r.map pM).take k).length<=100:=by rw[aw7,au1];omega
 have J:=az8 3100001 h2;omega
def rD(q:Nat)(c:cY)(w:World):Prop:=w.heap[q]? =some (.cells (Um c).toArray 494)
theorem rD.cell{q:Nat}{c:cY}{w:World}(h:rD q c w)(i:Nat)(D:i<5):w.cell? ⟨q,i,none⟩=(Um c)[i]? :=by
 unfold World.cell?;rw[show w.heap[(⟨q,i,none⟩:Addr).block]? =_ from h]
 simp
theorem rD.others{q B:Nat}{c:cY}{w w':World}(h:rD q c w)(J:q≠B)(F:Lib.OthersKept 5 (some B) w w'):rD q c w':=
 F q _ h (λe=>J (Option.some.inj e)) (λcs L e=>by injection e with _ D;exact absurd D (by decide))
theorem rD.below{q:Nat}{c:cY}{w w':World}(h:rD q c w)(D:Below w.heap.size w w'):rD q c w':=by unfold rD;rw[D.block _ (wc h)];exact h
set_option maxHeartbeats 4000000 in
theorem ana (r:List (List cY)) (a0:Option Addr) (cap0:Nat) (w:World) (ht:TabOk w.heap[tabB]?) (h:Bu 1 afu w (.slice a0 r.length cap0) r) (hn:r.length<=100) (ha:∀a∈r,a.length<=100) (hc:∀a∈r,∀c∈a,c.1=8\/fT c.2) (s:List UInt8) (hs:Hid (dj 124 (r.map pM)=s)):
  Calls at1 385 #[.agg #[.slice a0 r.length cap0]] w λe w'=>e=.returned (.string ⟨s.toArray⟩)/\Below w.heap.size w w':=by
 have H:=au3 h;have HT:=au3 ht;have HA:=au3 ha;have HC:=au3 hc
 have H0:Hid (Wr (w.heap.size+1) (dj 124 ((r.map pM).take 0)) ((w.alloc (.cells #[.slice a0 r.length cap0] 163)).alloc (.cells #[.pointer none,.slice none 0 0] 528))):=
  au3 (by
   have:=Lib.IsBuilderF.of (Lib.fresh_isBuilder 528 5 (w.alloc (.cells #[.slice a0 r.length cap0] 163)));have e:(w.alloc (.cells #[.slice a0 r.length cap0] 163)).heap.size=w.heap.size+1:=by simp
   rw[e]at this;exact this)
 have HB0:Hid (Below w.heap.size w ((w.alloc (.cells #[.slice a0 r.length cap0] 163)).alloc (.cells #[.pointer none,.slice none 0 0] 528))):=
  au3 (((Below.refl _ _).alloc (at9 _) _).alloc (by simp) _)
 clear h ht ha hc
 go_enter Tryz.func385,Tryz.ntmps385
 go_wp2_with fail
 go_loopw [11] (λi wr=>∃k:Nat,i=.int .i64 k/\k<=r.length/\Wr (w.heap.size+1) (dj 124 ((r.map pM).take k)) wr/\Below w.heap.size w wr) (λi _=>r.length-(intOf i).toNat)
 case atStart=>exact⟨0,rfl,au2 _,H0.out,HB0.out⟩
 case round=>
  obtain⟨k,rfl,hk,hwr,hbe⟩:=hrel;have HWR:=au3 hwr;have HBE:=au3 hbe;have hzz:=hbe.size;clear hwr hbe H0 HB0;have k0:(0:Int)<=(k:Int):=by omega
  by_cases hlt:k<r.length
  ·have k1:(k:Int)<(r.length:Int):=by omega
   have hdk:decide (k<r.length)=true:=decide_eq_true hlt;obtain⟨b,off,cs,rfl,hb,hcs,x,rfl,va,vc,rfl,hin⟩:=aby H.out k hlt
   have c0:wr.cell? ⟨b,off+k,none⟩=some (.slice va (r[k]).length vc):=by
    rw[HBE.out.cell (p:=⟨b,off+k,none⟩) hb];have:=hcs.2 0 (by omega)
    simpa using this
   have hin:Bu 5 Us w (.slice va (r[k]).length vc) (r[k]):=⟨va,vc,rfl,hin⟩;have HLT:=FX HWR.out;have hal:=HA.out (r[k]) (at2 hlt);have HCL:=au3 (HC.out (r[k]) (at2 hlt));have HTK:=au3 (Rn 124 (r.map pM) k (by rw[au1];exact hlt))
   have HPT:=au3 (amd r k hn HA.out HC.out);rw[ax8]at HTK;obtain⟨A,hA⟩:∃A,r[k]=A:=⟨_,rfl⟩;rw[hA]at c0 hin hal HCL HTK;obtain⟨X,hX⟩:∃X,dj 124 ((r.map pM).take k)=X:=⟨_,rfl⟩;rw[hX]at HWR HTK HPT;have HIN:=au3 hin;clear hcs hA hX hin;by_cases h0:0<k
   case' neg=>
    have hd0:decide ((0:Int)<(k:Int))=false:=decide_eq_false (by omega)
    have hd0':decide (0<k)=false:=decide_eq_false (by omega)
    have HW2:Hid (Wr (w.heap.size+1) (X++gU 124 k) wr):=au3 (by unfold gU;rw[if_neg h0,aw5];exact HWR.out)
    obtain⟨wx,hwx⟩:∃wx,wx=wr:=⟨_,rfl⟩;subst hwx;clear h0
    go_wp2_with fail
   case' pos=>
    have hd0:decide ((0:Int)<(k:Int))=true:=decide_eq_true (by omega)
    have hd0':decide (0<k)=true:=decide_eq_true h0;have HS:=au3 (show gU 124 k=[124] from by unfold gU;rw[if_pos h0])
    clear h0
    go_wp2_with fail
    refine(Y1 (w.heap.size+1) X 124 _ HWR.out (by have:=HPT.out;omega) (by omega)).mono ?_
    rintro e wx ⟨rfl,g1,g2,g3⟩;have HW2:=au3 g1;rw[<-HS.out]at HW2;have HBE:=au3 (HBE.out.trans (g2.mono (aC8 _)));clear g1 g2 g3
    go_wp2_with fail
   all_goals
    have HS0:Hid (Wr (w.heap.size+1) ((X++gU 124 k)++dj 44 ((A.map fR).take 0)) wx):=au3 (by rw[aG6];show Wr _ (_++[]) _;rw[aw5];exact HW2.out)
    have HXL:Hid ((X++gU 124 k).length<=400000001):=au3 (by have:=HPT.out;rw[au5];unfold gU;split<;>simp only[av1,ay2]<;>omega)
    obtain⟨Y,hY⟩:∃Y,X++gU 124 k=Y:=⟨_,rfl⟩;rw[hY]at HS0 HXL HTK;have HB0:=au3 HBE.out;clear hY HW2 HWR c0
    try clear HS
    go_loopw [21] (λi wr=>∃j:Nat,i=.int .i64 j/\j<=A.length/\Wr (w.heap.size+1) (Y++dj 44 ((A.map fR).take j)) wr/\Below w.heap.size w wr) (λi _=>A.length-(intOf i).toNat)
    case atStart=>exact⟨0,rfl,au2 _,HS0.out,HB0.out⟩
    case round=>
     obtain⟨j,rfl,hj,hwj,hbj⟩:=hrel;have HWJ:=au3 hwj;have HBJ:=au3 hbj;have hlj:=FX hwj;have hbj0:=hbj.size;clear hwj hbj HS0 HB0 HBE hd0 hd0';have j0:(0:Int)<=(j:Int):=by omega
     by_cases hjl:j<A.length
     ·have j1:(j:Int)<(A.length:Int):=by omega
      have hdj:decide (j<A.length)=true:=decide_eq_true hjl;obtain⟨b2,off2,cs2,rfl,hb2,hcs2,hcomp⟩:=aby HIN.out j hjl;unfold Us at hcomp;subst hcomp;have HCM:=HCL.out (A[j]) (at2 hjl);have HTJ:=au3 (Rn 44 (A.map fR) j (by rw[au1];exact hjl))
      have HPJ:=au3 (ZY A j hal HCL.out);rw[ax8]at HTJ;obtain⟨⟨op,⟨n0,n1,n2⟩,pre⟩,hcm⟩:∃c,A[j]=c:=⟨_,rfl⟩;rw[hcm]at hcs2 HTJ HCM;have e0:wr.cell? ⟨b2,off2+j*5,none⟩=some (.int .i64 op):=by rw[HBJ.out.cell (p:=⟨b2,off2+j*5,none⟩) hb2];exact hcs2.2 0 (by omega)
      have e1:wr.cell? ⟨b2,off2+j*5+1,none⟩=some (.int .i64 n0):=by rw[HBJ.out.cell (p:=⟨b2,off2+j*5+1,none⟩) hb2];exact hcs2.2 1 (by omega)
      have e2:wr.cell? ⟨b2,off2+j*5+2,none⟩=some (.int .i64 n1):=by rw[HBJ.out.cell (p:=⟨b2,off2+j*5+2,none⟩) hb2];exact hcs2.2 2 (by omega)
      have e3:wr.cell? ⟨b2,off2+j*5+3,none⟩=some (.int .i64 n2):=by rw[HBJ.out.cell (p:=⟨b2,off2+j*5+3,none⟩) hb2];exact hcs2.2 3 (by omega)
      have e4:wr.cell? ⟨b2,off2+j*5+4,none⟩=some (.string ⟨pre.toArray⟩):=by rw[HBJ.out.cell (p:=⟨b2,off2+j*5+4,none⟩) hb2];exact hcs2.2 4 (by omega)
      obtain⟨Z,hZ⟩:∃Z,dj 44 ((A.map fR).take j)=Z:=⟨_,rfl⟩;rw[hZ]at HWJ HTJ HPJ;have HCV:Hid (op=8\/fT ((n0,n1,n2),pre)):=au3 HCM;clear hcs2 hcm hZ HCM;have HAL:Hid (Below wr.heap.size wr (wr.alloc (.cells #[.int .i64 op,.int .i64 n0,.int .i64 n1,.int .i64 n2,.string ⟨pre.toArray⟩] 494))):=au3 ((Below.refl _ _).alloc (at9 _) _);have HCA:Hid (rD wr.heap.size (op,(n0,n1,n2),pre) (wr.alloc (.cells #[.int .i64 op,.int .i64 n0,.int .i64 n1,.int .i64 n2,.string ⟨pre.toArray⟩] 494))):=au3 (heap_alloc_new _ _);have HWA:=au3 (RU HWJ.out HAL.out);have HBA:=au3 (HBJ.out.trans (HAL.out.mono hbj0));have HSZ:Hid (wr.heap.size+1=(wr.alloc (.cells #[.int .i64 op,.int .i64 n0,.int .i64 n1,.int .i64 n2,.string ⟨pre.toArray⟩] 494)).heap.size):=au3 (by simp)
      by_cases hj0:0<j
      case' neg=>
       have hdz:decide ((0:Int)<(j:Int))=false:=decide_eq_false (by omega)
       have hdz':decide (0<j)=false:=decide_eq_false (by omega)
       have HSP:=au3 (show gU 44 j=[] from by unfold gU;rw[if_neg hj0])
       clear hj0
       go_wp2_with fail
       obtain⟨wy,hwy⟩:∃wy,wy=wr.alloc (.cells #[.int .i64 op,.int .i64 n0,.int .i64 n1,.int .i64 n2,.string ⟨pre.toArray⟩] 494):=⟨_,rfl⟩;rw[<-hwy]at HCA HWA HBA⊢;have HWY:Hid (Wr (w.heap.size+1) (Y++(Z++gU 44 j)) wy):=au3 (by rw[HSP.out,aw5];exact HWA.out)
       have HZY:Hid (w.heap.size+1<=wy.heap.size):=au3 (by rw[hwy,<-HSZ.out];omega)
       clear HAL hwy HWA
      case' pos=>
       have hdz:decide ((0:Int)<(j:Int))=true:=decide_eq_true (by omega)
       have hdz':decide (0<j)=true:=decide_eq_true hj0;have HSP:=au3 (show gU 44 j=[44] from by unfold gU;rw[if_pos hj0])
       clear hj0
       go_wp2_with fail
       refine(Y1 (w.heap.size+1) _ 44 _ HWA.out (by have:=HPJ.out;have:=HXL.out;rw[au5];omega) (by rw[<-HSZ.out];omega)).mono ?_
       rintro e wy ⟨rfl,g1,g2,g3⟩;have HWY:Hid (Wr (w.heap.size+1) (Y++(Z++gU 44 j)) wy):=au3 (by rw[HSP.out,<-aw9];exact g1)
       have HZY:Hid (w.heap.size+1<=wy.heap.size):=au3 (aB7 (FX g1));have HCA:=au3 (HCA.out.others (by omega) g3)
       have HBA:=au3 (HBA.out.trans (g2.mono (aC8 _)));have q0:wy.cell? ⟨wr.heap.size,0,none⟩=some (.int .i64 op):=HCA.out.cell 0 (by omega)
       clear g1 g2 g3 HAL HWA
       go_wp2_with fail
       clear q0
      all_goals
       refine(ao6 op wy (Y4 HT.out HBA.out)).mono ?_;rintro e wz ⟨rfl,g1⟩;have HWZ:=au3 (RU HWY.out g1);have HCZ:=au3 (HCA.out.below g1);have HZZ:Hid (w.heap.size+1<=wz.heap.size):=au3 (aw8 HZY.out g1.size);have HBZ:=au3 (HBA.out.trans (g1.mono (aw8 (aC8 _) HZY.out)));clear g1
       go_wp2_with fail
       refine(Z1 (w.heap.size+1) _ (bW op) wz HWZ.out (by
        have:=HPJ.out;have:=HXL.out;have:(bW op).length<=2:=by unfold bW;(repeat' split)<;>decide
        have h2:(gU 44 j).length<=1:=by rw[HSP.out];decide
        rw[au5,au5];omega) HZZ.out).mono ?_
       rintro e wu ⟨rfl,g1,g2,g3⟩;have HWU:=au3 g1;have HCU:=au3 (HCZ.out.others (by omega) g3)
       have HZU:Hid (w.heap.size+1<=wu.heap.size):=au3 (aB7 (FX g1));have HBU:=au3 (HBZ.out.trans (g2.mono (aC8 _)));have q0:wu.cell? ⟨wr.heap.size,0,none⟩=some (.int .i64 op):=HCU.out.cell 0 (by omega)
       have q1:wu.cell? ⟨wr.heap.size,1,none⟩=some (.int .i64 n0):=HCU.out.cell 1 (by omega)
       have q2:wu.cell? ⟨wr.heap.size,1+1,none⟩=some (.int .i64 n1):=HCU.out.cell 2 (by omega)
       have q3:wu.cell? ⟨wr.heap.size,1+2,none⟩=some (.int .i64 n2):=HCU.out.cell 3 (by omega)
       have q4:wu.cell? ⟨wr.heap.size,1+3,none⟩=some (.string ⟨pre.toArray⟩):=HCU.out.cell 4 (by omega)
       clear g1 g2 g3 HWY HZY HCA HBA HWZ HCZ HZZ HBZ;by_cases h8:op=8
       case' pos=>
        have HJT:Hid (Y++dj 44 ((A.map fR).take (j+1))=Y++(Z++gU 44 j)++bW op):=au3 (by rw[HTJ.out];unfold fR;rw[if_pos h8,aw5];simp only[aw9])
        subst h8
        go_wp2_with fail
        go_roundw
        case rel=>exact⟨j+1,by go_num,by omega,by rw[HJT.out];exact HWU.out,HBU.out⟩
        case measure=>simp [intOf];omega
       case' neg=>
        have hd8:(op !=8)=true:=by simp [h8]
        have HJT:Hid (Y++dj 44 ((A.map fR).take (j+1))=Y++(Z++gU 44 j)++bW op++kR ((n0,n1,n2),pre)):=au3 (by rw[HTJ.out];unfold fR;rw[if_neg h8];simp only[aw9])
        have HVO:Hid (fT ((n0,n1,n2),pre)):=au3 (HCV.out.resolve_left h8);have HLN:=au3 (ZO (op,(n0,n1,n2),pre) HCV.out);have HVL:Hid ((kR ((n0,n1,n2),pre)).length<=30000):=au3 (by have:=HLN.out;unfold fR at this;rw[if_neg h8,au5]at this;have:(bW op).length+(kR ((n0,n1,n2),pre)).length<=30000:=this;omega)
        clear h8
        go_wp2_with fail
        refine(anb ((n0,n1,n2),pre) HVO.out wu (Y4 HT.out HBU.out)).mono ?_;rintro e wt ⟨rfl,g1⟩;have HWT:=au3 (RU HWU.out g1);have HZT:Hid (w.heap.size+1<=wt.heap.size):=au3 (aw8 HZU.out g1.size);have HBT:=au3 (HBU.out.trans (g1.mono (aw8 (aC8 _) HZU.out)));clear g1 q0 q1 q2 q3 q4
        go_wp2_with fail
        refine(Z1 (w.heap.size+1) _ (kR ((n0,n1,n2),pre)) wt HWT.out (by
         have:=HPJ.out;have:=HXL.out;have:(bW op).length<=2:=by unfold bW;(repeat' split)<;>decide
         have h2:(gU 44 j).length<=1:=by rw[HSP.out];decide
         have:=HVL.out;rw[au5,au5,au5];omega) HZT.out).mono ?_
        rintro e wv ⟨rfl,g1,g2,g3⟩;have HWV:=au3 g1;have HBV:=au3 (HBT.out.trans (g2.mono (aC8 _)));clear g1 g2 g3
        go_wp2_with fail
        go_roundw
        case rel=>exact⟨j+1,by go_num,by omega,by rw[HJT.out];exact HWV.out,HBV.out⟩
        case measure=>simp [intOf];omega
     ·have hdj:decide (j<A.length)=false:=decide_eq_false hjl;have HJT:Hid (Y++dj 44 ((A.map fR).take j)=Y++pM A):=au3 (by rw[aB8 (by rw[au1];omega)];rfl)
      rw[HJT.out]at HWJ;have HJN:=au3 hjl;clear hjl
      go_wp2_with fail
      go_roundw
      case rel=>exact⟨k+1,by go_num,by omega,by rw[HTK.out];exact HWJ.out,HBJ.out⟩
      case measure=>simp [intOf];omega
  ·have hdk:decide (k<r.length)=false:=decide_eq_false hlt;have HK:Hid (dj 124 ((r.map pM).take k)=s):=au3 (by rw[aB8 (by rw[au1];omega),hs.out])
   rw[HK.out]at HWR;have HLT:=au3 hlt;have HZR:Hid (w.heap.size+1<=wr.heap.size):=au3 (aB7 (FX HWR.out));clear hlt
   go_wp2_with fail
   refine(aqs (w.heap.size+1) s _ HWR.out HZR.out).mono ?_;rintro e w4 ⟨rfl,hb4⟩
   go_wp2_with fail
   go_ret
   exact⟨rfl,HBE.out.trans (hb4.mono (aC8 _))⟩
theorem aoW(r:List (List cY))(J:r.length<=100)(D:∀a∈r,a.length<=100)(hc:∀a∈r,∀c∈a,c.1=8\/fT c.2)(s:List UInt8)(hs:dj 124 (r.map pM)=s):
  fw at1 385 [.agg [.v (.sl (.sl OP)) r]] [] (.ret (.c (.v .str s)) []):=by
 refine fw.pure λA w vals U M N=>?_;obtain⟨v0,rfl,cs,rfl,h1⟩:=tU N;obtain⟨x,rfl,O⟩:=tU h1;obtain⟨a,cap,e,L⟩:=anG O;rw[e];refine(ana r a cap w M ⟨a,cap,rfl,L⟩ J D hc s (au3 hs)).mono ?_;rintro e w' ⟨rfl,F⟩;exact⟨_,A,rfl,gv.qv F,λ_ _ h=>h,λ_ _ h=>.inl h,FI rfl⟩
noncomputable def ahG:cM at1:=mkB 385 ⟨[(0,.st (.sl (.sl (.pair (.int .i64) (.pair (.pair (.int .i64) (.pair (.int .i64) (.int .i64))) .str)))))],[]⟩ [(false,⟨[(2,.c (.v .str))],[]⟩)] (λr=>(r,())) (λx=>yL x.1) (by kernel_rfl) (λx o h0=>by
 obtain⟨r,u⟩:=x;have h:yL r=some o:=h0;clear h0;unfold yL at h;split at h
 ·rename_i D;injection h with h;exact aoW r D.1 D.2.1 D.2.2 o h
 ·cases h)
def QE:FS:=mkQ [XN] [] 98 cJ [(false,⟨((2,ke)::uZ),[]⟩)] (k1 zz)
def qd:FS:=mkQ [] [] 151 ⟨[dm],eX⟩ [(false,⟨[(2,jx)],eX⟩)] (k1 iZ)
def iJ:FS:=mkHh [qd] [(12,{ow:=[4],ps:=[(4,cK)]})] 100 ⟨[dm],eX⟩ ((false,⟨kX,eX⟩)::pU) (id) (id) (λ_=>rfl) (k1 dS)
def cV:FS:=mkHh [] [] 101 ⟨[dm,bT],eX⟩ pU (id) (id) (λ_=>rfl) (k2 aZ)
def ahg:FS:=mkHh [cV] B2 248 ⟨BI,(gi::BE)⟩ [(false,⟨[],(gi::BE)⟩),(true,⟨[],(lY::BE)⟩)] (id) (id) (λ_=>rfl) (k3 C3)
def ajF:FS:=mkG [] [] 411 ⟨[(0,BP)],[]⟩ iI (k1 Kz)
def XL:FS:=mkG [ajF] [(29,Hb),(58,{loop:=some ⟨[dP,(22,aU),(23,aU)],[]⟩})] 363 cJ iI (k1 EA)
def DO:FS:=mkG [XL] [] 287 cJ iI (k1 o0)
def ai7:FS:=mkQ [DO] [] 251 cJ G9 (k1 DN)
def PJ:FS:=mkHh [cV,iJ,ai7] oQ 178 ⟨[dm,(1,.fn 251 [] [])],eX⟩ G5 (id) (id) (λ_=>rfl) (k1 CI)
def ahu:FS:=mkG [] [] 250 ⟨[(0,.st vz)],[]⟩ sZ (k1 Jp)
def agN:FS:=mkQ [ahu] [] 377 ⟨((0,.st vz)::xM),((1020,U0)::rk)⟩ [(false,⟨sU,((1020,U0)::rk)⟩)] (k2 IM)
def afU:FS:=mkQ [agN] ((13,{cut:=[(.normal,⟨[],GW⟩),(.ret,⟨fp,GW⟩)]})::(26,{loop:=some ⟨((0,GO)::(1,.fn 377 [] rj)::jN),GW⟩})::Hu) 376 ⟨[(0,GO),(1,.fn 377 [] rj)],GW⟩ [(false,⟨fp,GW⟩)] (k2 Pk)
def Ws:FS:=mkG [afU] Hj 296 ⟨((0,GO)::(1,.fn 250 [] [])::kX),[]⟩ vd (k2 yn)
def agj:FS:=mkHh [cV,Ws] He 249 ⟨[dm,jM,(2,.fn 250 [] []),(3,fa)],(gi::BE)⟩ [(false,⟨[(8,fa)],(gi::BE)⟩),(true,⟨[],(lY::BE)⟩)] (id) (id) (λ_=>rfl) (k3 Ix)
def agz:FS:=mkHh [cV,iJ,ajq] oQ 252 ⟨[dm,(1,.fn 253 [] [])],eX⟩ ((false,⟨[(4,.c (.v (.gK .f64)))],eX⟩)::pU) (id) (id) (λ_=>rfl) (k1 PO)
def ajz:FS:=mkQ [] [] 255 cJ [(false,⟨((2,jx)::jo),[]⟩)] (k1 Kw)
def agF:FS:=mkHh [cV,iJ,ajz] oQ 254 ⟨[dm,(1,.fn 255 [] [])],eX⟩ ((false,⟨sU,eX⟩)::pU) (id) (id) (λ_=>rfl) (k1 PU)
def agY:FS:=mkHh [agF,agz,PJ,ahg,agj] [(2,{ow:=[10],ps:=[(10,[nB,(1020,1001)])]}),(6,{un:=[.v 1000 0],ow:=[17,18],kf:=[(3,eY),(4,eY),(6,nD),(7,.u [1020,1001] true)],ps:=[(17,bj),(18,[nB,(1020,1001)])]}),(7,{un:=[.v 1000 0],ow:=[26,28],kf:=[(3,eY),(4,eY),(7,nD),(9,nD),(12,Vl),(14,eY),(15,GM)],ps:=[(26,bj),(28,bj)]})] 168 GS Hq (id) (id) (λ_=>rfl) (λx=>IX x.1 x.2.1 x.2.2.1 x.2.2.2.1 x.2.2.2.2.1 x.2.2.2.2.2.1)
def ahs:FS:=mkHh [cV] B2 256 ⟨BI,(gi::Bz)⟩ [(false,⟨[],(gi::Bz)⟩),(true,⟨[],(lY::Bz)⟩)] (id) (id) (λ_=>rfl) (k3 C9)
def agC:FS:=mkG [] [] 448 lQ fv (k2 II)
def agD:FS:=mkQ [agC] [] 431 lQ G3 (k2 PS)
def P3:FS:=mkQ [agD] [] 406 lQ G3 (k2 yJ)
def Wy:FS:=mkG [] [] 449 lQ fv (k2 CM)
def agE:FS:=mkQ [Wy] [] 432 lQ G3 (k2 PT)
def WO:FS:=mkQ [agE] [] 409 lQ G3 (k2 C8)
def XM:FS:=mkQ [JY,WO] [] 361 cJ [(false,⟨[(2,fa),(3,fa)],[]⟩)] (k1 EB)
def y':FS:=mkG [DO,XM] [] 285 cJ iI (k1 rK)
def QX:FS:=mkG [y',DO,XM,XL,P3] [] 352 cJ iI (k1 zQ)
def ajB:FS:=mkQ [QX] [] 259 cJ G9 (k1 D8)
def agA:FS:=mkHh [cV,iJ,ajB] oQ 178 ⟨[dm,(1,.fn 259 [] [])],eX⟩ G5 (id) (id) (λ_=>rfl) (k1 PQ)
def ahP:FS:=mkG [] [] 258 ⟨[(0,.st yh)],[]⟩ sZ (k1 Jz)
def agQ:FS:=mkQ [ahP] [] 405 ⟨((0,.st yh)::xM),((1020,U1)::rk)⟩ [(false,⟨sU,((1020,U1)::rk)⟩)] (k2 IN)
def afX:FS:=mkQ [agQ] ((13,{cut:=[(.normal,⟨[],GX⟩),(.ret,⟨fp,GX⟩)]})::(26,{loop:=some ⟨((0,.c BK)::(1,.fn 405 [] rj)::jN),GX⟩})::Hu) 404 ⟨[(0,.c BK),(1,.fn 405 [] rj)],GX⟩ [(false,⟨fp,GX⟩)] (k2 Pm)
def ags:FS:=mkG [afX] Hj 351 ⟨((0,.c BK)::(1,.fn 258 [] [])::kX),[]⟩ vd (k2 IB)
def agq:FS:=mkHh [cV,ags] He 257 ⟨[dm,jM,(2,.fn 258 [] []),(3,fa)],(gi::Bz)⟩ [(false,⟨[(8,fa)],(gi::Bz)⟩),(true,⟨[],(lY::Bz)⟩)] (id) (id) (λ_=>rfl) (k3 Iz)
def CP:FS:=mkG [] [p9,(26,{loop:=some ⟨((0,fo)::dD::jN),[]⟩})] 139 N9 eJ (k2 mL)
def ajA:FS:=mkQ [CP] [] 261 cJ [Vc] (k1 Kx)
def agJ:FS:=mkHh [cV,iJ,ajA] oQ 260 ⟨[dm,(1,.fn 261 [] [])],eX⟩ ((false,⟨fp,eX⟩)::pU) (id) (id) (λ_=>rfl) (k1 PZ)
def WG:FS:=mkG [Ws] [] 190 BR eJ (k2 tt)
def CN:FS:=mkG [CP] [] 66 N9 fv (k2 rE)
def ahi:FS:=mkHh [cV,qd,agJ,agA,PJ,ahs,agq,WG,CN] [(2,{ow:=[11],ps:=[(11,[nB,(1020,1002)])]}),(6,{un:=[.v 1000 1],ow:=[18,19,21],kf:=[(3,eY),(4,eY),(6,nD),(7,.u [1020,1002] true),(9,nD),(11,.n 4),(12,.u [4] false)],ps:=[(18,bj),(19,[nB,(1020,1002)]),(21,bj)]}),(14,{cut:=[(.normal,⟨[dm,iY],aed⟩),(.dx,⟨[],(N4::Wn)⟩)]}),(15,{pre:=[.aY 45]}),(28,{un:=[.v 1000 1],pre:=[.dR 4 2 45 (.row [] 9 .str [])],loop:=some ⟨[dm,jr,iY],aed⟩}),(224,{ow:=[24],ps:=[(24,bj)]}),(452,{ow:=[26],ps:=[(26,bj)]}),(1812,{rd:=[31]}),(3626,{ow:=[34],ps:=[(34,bj)]}),(3628,{rd:=[38]}),(7258,{ow:=[40],ps:=[(40,bj)]})] 169 GS Hq (id) (id) (λ_=>rfl) (λx=>Ji x.1 x.2.1 x.2.2.1 x.2.2.2.1 x.2.2.2.2.1 x.2.2.2.2.2.1)
def ah7:FS:=mkHh [cV] B2 262 ⟨BI,(gi::BA)⟩ [(false,⟨[],(gi::BA)⟩),(true,⟨[],(lY::BA)⟩)] (id) (id) (λ_=>rfl) (k3 Dl)
def ajC:FS:=mkQ [y'] [] 265 cJ G9 (k1 D9)
def Wx:FS:=mkHh [cV,iJ,ajC] oQ 178 ⟨[dm,(1,.fn 265 [] [])],eX⟩ G5 (id) (id) (λ_=>rfl) (k1 IG)
def ain:FS:=mkG [] [] 264 ⟨[(0,.st BV)],[]⟩ sZ (k1 JR)
def agW:FS:=mkQ [ain] [] 367 ⟨((0,.st BV)::xM),((1020,U2)::rk)⟩ [(false,⟨sU,((1020,U2)::rk)⟩)] (k2 IV)
def af6:FS:=mkQ [agW] ((13,{cut:=[(.normal,⟨[],GY⟩),(.ret,⟨fp,GY⟩)]})::(26,{loop:=some ⟨((0,.c GA)::(1,.fn 367 [] rj)::jN),GY⟩})::Hu) 366 ⟨[(0,.c GA),(1,.fn 367 [] rj)],GY⟩ [(false,⟨fp,GY⟩)] (k2 Pz)
def Wv:FS:=mkG [af6] Hj 290 ⟨((0,.c GA)::(1,.fn 264 [] [])::kX),[]⟩ vd (k2 yu)
def agx:FS:=mkHh [cV,Wv] He 263 ⟨[dm,jM,(2,.fn 264 [] []),(3,fa)],(gi::BA)⟩ [(false,⟨[(8,fa)],(gi::BA)⟩),(true,⟨[],(lY::BA)⟩)] (id) (id) (λ_=>rfl) (k3 IF)
def aii:FS:=mkQ [] [(61,{cut:=[(.normal,afm),(.ret,⟨[(4,aU),(5,oJ)],[]⟩)]}),(122,{loop:=some ⟨[dP,j9,(28,aU),(29,aU)],[]⟩})] 354 GR [(false,⟨[(4,aU),sV],[]⟩)] (k2 JM)
def W4:FS:=mkQ [JY,Dh,aii,Xk] [(509,{cut:=[(.normal,⟨[cU,N8],[(2,nF),(8,nF)]⟩),(.ret,⟨[cU,(3,oJ)],[(2,nF)]⟩)]}),(1018,{loop:=some ⟨[cU,N8,(34,fo),(35,aU),(36,aU)],[(2,nF),(8,nF)]⟩})] 267 cJ [(false,⟨((3000002,nx)::jo),[]⟩)] (k1 vT)
def PF:FS:=mkHh [cV,iJ,W4] oQ 266 ⟨[dm,(1,.fn 267 [] [])],eX⟩ ((false,⟨[(3000004,nx)],eX⟩)::pU) (id) (id) (λ_=>rfl) (k1 yt)
def ahv:FS:=mkHh [PF,Wx,ah7,agx] [(2,{ow:=[10],ps:=[(10,[nB,(1020,1003)])]}),(6,{un:=[.v 1000 2],ow:=[17,18],kf:=[(3,eY),(4,eY),(6,nD),(7,.u [1020,1003] true)],ps:=[(17,bj),(18,[nB,(1020,1003)])]}),(7,{un:=[.v 1000 2],ow:=[26],kf:=[(3,eY),(4,eY),(7,nD),(10,.u [1003] false),(12,eY),(13,GM)],ps:=[(26,bj)]})] 170 GS Hq (id) (id) (λ_=>rfl) (λx=>Jq x.1 x.2.1 x.2.2.1 x.2.2.2.1 x.2.2.2.2.1 x.2.2.2.2.2.1)
def ahN:FS:=mkHh [cV] B2 268 ⟨BI,(gi::BB)⟩ [(false,⟨[],(gi::BB)⟩),(true,⟨[],(lY::BB)⟩)] (id) (id) (λ_=>rfl) (k3 Dd)
def ah8:FS:=mkG [] [] 270 ⟨[(0,.st Cu)],[]⟩ sZ (k1 JI)
def agR:FS:=mkQ [ah8] [] 369 ⟨((0,.st Cu)::xM),((1020,U3)::rk)⟩ [(false,⟨sU,((1020,U3)::rk)⟩)] (k2 IS)
def af2:FS:=mkQ [agR] ((13,{cut:=[(.normal,⟨[],GZ⟩),(.ret,⟨fp,GZ⟩)]})::(26,{loop:=some ⟨((0,.c GF)::(1,.fn 369 [] rj)::jN),GZ⟩})::Hu) 368 ⟨[(0,.c GF),(1,.fn 369 [] rj)],GZ⟩ [(false,⟨fp,GZ⟩)] (k2 Pt)
def Wu:FS:=mkG [af2] Hj 291 ⟨((0,.c GF)::(1,.fn 270 [] [])::kX),[]⟩ vd (k2 yr)
def agt:FS:=mkHh [cV,Wu] He 269 ⟨[dm,jM,(2,.fn 270 [] []),(3,fa)],(gi::BB)⟩ [(false,⟨[(8,fa)],(gi::BB)⟩),(true,⟨[],(lY::BB)⟩)] (id) (id) (λ_=>rfl) (k3 ID)
def aks:FS:=mkG [] [] 355 ⟨[(0,BP)],[]⟩ [(false,⟨[(2,BP)],[]⟩)] (k1 KR)
def ahQ:FS:=mkQ [aks] [ae2,(122,{loop:=some ⟨[dP,(4,kg),Bv,xy],[]⟩})] 272 cJ [(false,⟨((2,kg)::jo),[]⟩)] (k1 De)
def Wt:FS:=mkHh [cV,iJ,ahQ] oQ 271 ⟨[dm,(1,.fn 272 [] [])],eX⟩ ((false,⟨[(4,kg)],eX⟩)::pU) (id) (id) (λ_=>rfl) (k1 yq)
def ag3:FS:=mkG [] [p9,(26,{loop:=some ⟨((0,Vj)::(1,kg)::jN),[]⟩})] 356 ⟨[(0,Vj),(1,kg)],[]⟩ eJ (k2 P4)
def WB:FS:=mkG [ag3] [] 273 ⟨[(0,Vj),(1,kg)],[]⟩ fv (k2 yy)
def ahh:FS:=mkHh [cV] B2 274 ⟨BI,[gi,(1020,GB)]⟩ [(false,⟨[],[gi,(1020,GB)]⟩),(true,⟨[],[lY,(1020,GB)]⟩)] (id) (id) (λ_=>rfl) (k3 C4)
def ahj:FS:=mkHh [cV,qd,Wt,Wx,ahh,ahN,agt,WB] [(2,{ow:=[11],ps:=[(11,[nB,(1020,1004)])]}),(6,{un:=[.v 1000 3],ow:=[18,19,21,22],kf:=[(3,eY),(4,eY),(6,nD),(7,.u [1020,1004] true),(9,nD),(10,.u [22] false),(12,.n 4),(13,.u [4] false)],ps:=[(18,bj),(19,[nB,(1020,1004)]),(21,bj)]}),(14,{cut:=[(.normal,⟨[dm,iY],((4,.var 418 [bm,.own 22])::(22,GB)::VM)⟩),(.dx,⟨[],(N4::Wn)⟩)]}),(15,{pre:=[.aY 22]}),(28,{un:=[.v 1000 3],loop:=some ⟨[dm,jr,iY],((4,.var 418 [bm,.own 22])::(22,GB)::VM)⟩}),(224,{ow:=[25],ps:=[(25,bj)]}),(452,{ow:=[27],ps:=[(27,bj)]}),(1812,{rd:=[31]}),(1814,{ow:=[37],ps:=[(37,[nB,(1020,22)])]}),(1815,{un:=[.v 4 1]}),(3626,{ow:=[33],ps:=[(33,bj)]})] 171 GS Hq (id) (id) (λ_=>rfl) (λx=>Jj x.1 x.2.1 x.2.2.1 x.2.2.2.1 x.2.2.2.2.1 x.2.2.2.2.2.1)
def ahf:FS:=mkHh [cV] B2 275 ⟨BI,(gi::BC)⟩ [(false,⟨[],(gi::BC)⟩),(true,⟨[],(lY::BC)⟩)] (id) (id) (λ_=>rfl) (k3 C2)
def aht:FS:=mkG [] [] 174 ⟨[(0,.st Cr)],[]⟩ sZ (k1 Jo)
def agM:FS:=mkQ [aht] [] 280 ⟨((0,.st Cr)::xM),((1020,U4)::rk)⟩ [(false,⟨sU,((1020,U4)::rk)⟩)] (k2 IL)
def afT:FS:=mkQ [agM] ((13,{cut:=[(.normal,⟨[],G0⟩),(.ret,⟨fp,G0⟩)]})::(26,{loop:=some ⟨((0,.c GG)::(1,.fn 280 [] rj)::jN),G0⟩})::Hu) 279 ⟨[(0,.c GG),(1,.fn 280 [] rj)],G0⟩ [(false,⟨fp,G0⟩)] (k2 Pj)
def Wq:FS:=mkG [afT] Hj 173 ⟨((0,.c GG)::(1,.fn 174 [] [])::kX),[]⟩ vd (k2 ym)
def agi:FS:=mkHh [cV,Wq] He 276 ⟨[dm,jM,(2,.fn 174 [] []),(3,fa)],(gi::BC)⟩ [(false,⟨[(8,fa)],(gi::BC)⟩),(true,⟨[],(lY::BC)⟩)] (id) (id) (λ_=>rfl) (k3 Iw)
def akt:FS:=mkQ [] [(61,{cut:=[(.normal,⟨[dP,(4,jK)],[]⟩),(.ret,⟨[(2,jK),(3,oJ)],[]⟩)]}),(122,{loop:=some ⟨(dP::(4,jK)::Bx),[]⟩})] 278 cJ [(false,⟨((2,jK)::jo),[]⟩)] (k1 EC)
def WA:FS:=mkHh [cV,iJ,akt] oQ 277 ⟨[dm,(1,.fn 278 [] [])],eX⟩ ((false,⟨[(4,jK)],eX⟩)::pU) (id) (id) (λ_=>rfl) (k1 IK)
def agX:FS:=mkHh [WA,PJ,ahf,agi] [(2,{ow:=[10],ps:=[(10,[nB,(1020,1005)])]}),(6,{un:=[.v 1000 4],ow:=[17,18],kf:=[(3,eY),(4,eY),(6,nD),(7,.u [1020,1005] true)],ps:=[(17,bj),(18,[nB,(1020,1005)])]}),(7,{un:=[.v 1000 4],ow:=[26],kf:=[(3,eY),(4,eY),(7,nD),(10,.u [1005] false),(12,eY),(13,GM)],ps:=[(26,bj)]})] 172 GS Hq (id) (id) (λ_=>rfl) (λx=>IW x.1 x.2.1 x.2.2.1 x.2.2.2.1 x.2.2.2.2.1 x.2.2.2.2.2.1)
def ahO:FS:=mkHh [cV,iJ,ahj,ahv,ahi,agY,agX] [(2,{ow:=[6],ps:=[(6,cK)]}),(110,{ow:=[20],ps:=[(20,cK)]}),(446,{ow:=[25],ps:=[(25,Ht)]}),(1790,{ow:=[30],ps:=[(30,Ht)]}),(7166,{ow:=[35],ps:=[(35,Ht)]}),(28670,{ow:=[40],ps:=[(40,Ht)]}),(114686,{ow:=[45],ps:=[(45,Ht)]}),(114687,Vb)] 167 ⟨(dm::xM),aeR⟩ [(false,⟨[],aeR⟩),(true,⟨[],(lY::(1020,Ho)::(1040,Ob)::afi)⟩)] (id) (id) (λ_=>rfl) (λx=>Jy x.1 x.2.1 x.2.2.1 x.2.2.2.1 x.2.2.2.2.1 x.2.2.2.2.2.1 x.2.2.2.2.2.2.1)
def agH:FS:=mkEach [cV,qd,ahO] ((61,{cut:=[(.normal,⟨[ri],(oH::Vx::VP)⟩),(.dx,⟨[ri],(oH::(1200,Ob)::VP)⟩)]})::(122,{loop:=some ⟨((1,.fn 167 [] BS)::U5),(oH::Vx::VP)⟩})::(31334,{ow:=[23],ps:=[(23,[(1000,20),(1020,1100),(1040,1200),(1041,1201),(1042,1202),(1043,1203),(1044,1204),(1045,1205)])]})::VG) ⟨[(0,ke),(1,.fn 167 [] BS)],VJ⟩ ⟨[(0,ke),(1,.fn 167 [] BS),ri],(sY::VJ)⟩ ⟨BL,VJ⟩ ⟨BL,(oH::(1200,Ob)::aeN)⟩ (id) (id) (λ_=>rfl) (λx=>PX x.1 x.2.1 x.2.2.1 x.2.2.2.1 x.2.2.2.2.1 x.2.2.2.2.2.1 x.2.2.2.2.2.2.1) (by kernel_rfl) (λx=>by kernel_rfl)
def aja:FS:=mkQ [agH,QE] [(116,vi),(126,{pre:=[.dR 6 0 606 (.row [] 337 vz []),.dR 6 1 607 (.row [] 405 yh []),.dR 6 2 608 (.row [] 411 BV []),.dR 6 3 609 (.row [] 418 Cu []),.dR 6 4 610 (.row [] 317 Cr [])],ow:=[20],ps:=[(20,[(1100,7),(1200,6),(1201,606),(1202,607),(1203,608),(1204,609),(1205,610)])]}),(1023,{pre:=[.aY 606,.aY 607,.aY 608,.aY 609,.aY 610]}),(4084,vi)] 88 cJ [(false,⟨((3000002,.st Cp)::uZ),[]⟩)] (k1 vZ)
def agZ:FS:=mkQ [Wq] [] 89 BR [(false,⟨[(4,jK),sV],[]⟩)] (k2 IY)
def ajN:FS:=mkQ [DO] [] 182 cJ G9 (k1 Ea)
def PM:FS:=mkHh [cV,iJ,ajN] oQ 178 ⟨[dm,(1,.fn 182 [] [])],eX⟩ G5 (id) (id) (λ_=>rfl) (k1 CL)
def akw:FS:=mkQ [y'] [] 179 cJ G9 (k1 EF)
def Wz:FS:=mkHh [cV,iJ,akw] oQ 178 ⟨[dm,(1,.fn 179 [] [])],eX⟩ G5 (id) (id) (λ_=>rfl) (k1 IJ)
def ahZ:FS:=mkG [] [] 187 cJ iI (k1 cmp_isNaN_string)
def I5:FS:=mkG [ahZ] [] 108 lQ eJ (k2 rG)
def aiR:FS:=mkG [] [] 222 N5 iI (k1 cmp_isNaN_int)
def Js:FS:=mkG [aiR] [] 129 ⟨[rh,bT],[]⟩ eJ (k2 mM)
def aiv:FS:=mkG [Js,ah2,WZ] [] 294 lQ eJ (k2 JW)
def aiS:FS:=mkG [Js,aiv] [(13,{cut:=((.normal,⟨[(0,fo),(1,fo)],[]⟩)::Ha)}),(26,{loop:=some ⟨((0,fo)::(1,fo)::fJ),[]⟩})] 188 ⟨[(0,fo),(1,fo)],[]⟩ eJ (k2 J6)
def P8:FS:=mkG [Js,Dh,aiS] [(13,{cut:=((.normal,⟨[cU,c9],[(2,nF),(3,nF)]⟩)::Ha)}),(26,{loop:=some ⟨(cU::c9::j8),[(2,nF),(3,nF)]⟩})] 109 ⟨[(0,nx),(1,nx)],[]⟩ eJ (k2 tC)
def ajO:FS:=mkG [I5,P8] [] 359 ⟨[(0,.st ku),(1,.st ku)],[]⟩ eJ (k2 KC)
def agS:FS:=mkG [ajO] [] 358 ⟨[(0,.st ku),(1,.c (.v (.ptr ku)))],[]⟩ [(false,⟨jo,[]⟩)] (k2 IT)
def afY:FS:=mkG [agS] [p9,(26,{loop:=some ⟨((0,.c (.v (.sl ku)))::(1,.fn 358 [] [.v (.ptr ku)])::jN),[]⟩})] 408 aew eJ (k2 Pr)
def afV:FS:=mkG [afY] [] 357 aew fv (k2 Im)
def ah9:FS:=mkQ [qd] [(12,{ow:=[6],kf:=[(1,GM),(6,eY),(7,eY),(8,eY),(11,eY),(12,eY),(13,bS),(14,bS)],ps:=[(6,cK)]})] 360 ⟨[dm,dD],eX⟩ [(false,⟨sU,eX⟩)] (k2 yQ)
def ahz:FS:=mkHh [cV,ah9,Wt,WA,PF,Wz,afV] [(6,{ow:=[15,17],ps:=[(15,bj),(17,bj)]}),(10,{ow:=[13],ps:=[(13,bj)]}),(28,{rd:=[25]}),(30,Vn),(58,{ow:=[27],ps:=[(27,bj)]}),(62,{ow:=[32],ps:=[(32,bj)]}),(126,Vp),(127,{pre:=ad9,post:=[.oL 5005 (.row [] 165 a0a []),.dR 1001 8 5002 (.row [] 165 a0a []),.dR 1001 9 5003 (.row [] 165 a0a []),.dR 1001 10 5004 (.bF [] 154 (.pair .str (.sl a0a)) true [] [.v .str [],.ow 5005 0 .all])],rd:=[44]})] 281 ⟨[dm,jr],Pa⟩ Ii (id) (id) (λ_=>rfl) (λx=>Da x.1 x.2.1 x.2.2.1 x.2.2.2.1 x.2.2.2.2.1 x.2.2.2.2.2.1 x.2.2.2.2.2.2.1 x.2.2.2.2.2.2.2.1 x.2.2.2.2.2.2.2.2.1 x.2.2.2.2.2.2.2.2.2.1 x.2.2.2.2.2.2.2.2.2.2.1 x.2.2.2.2.2.2.2.2.2.2.2.1 x.2.2.2.2.2.2.2.2.2.2.2.2.1 x.2.2.2.2.2.2.2.2.2.2.2.2.2.1 x.2.2.2.2.2.2.2.2.2.2.2.2.2.2.1 x.2.2.2.2.2.2.2.2.2.2.2.2.2.2.2.1 x.2.2.2.2.2.2.2.2.2.2.2.2.2.2.2.2.1 x.2.2.2.2.2.2.2.2.2.2.2.2.2.2.2.2.2.1)
def akM:FS:=mkQ [QP,WO,W4] [(29,{cut:=[(.normal,⟨[cU],[Vw]⟩),(.ret,⟨(cU::jo),[Vw]⟩)]}),(58,{loop:=some ⟨(dP::cU::(13,ic)::GN),[Vw]⟩})] 362 cJ [(false,⟨((3000002,.st u4)::jo),[]⟩)] (k1 K1)
def al3:FS:=mkQ [akM,Dh] [(125,{cut:=[(.normal,⟨[ad3],[(31,.row 494 u4)]⟩),On]}),(127,{pre:=[.aY 31]}),(250,{pre:=[.dI 5 31 (.row [] 494 u4 [])],loop:=some ⟨(ad3::(15,fo)::NZ),[(31,.row 494 u4)]⟩})] 286 cJ [(false,⟨((2,.c (.v s9))::jo),[]⟩)] (k1 Lx)
def aj5:FS:=mkQ [al3,Dh] [(125,{cut:=[(.normal,⟨[cU,fO],aeG⟩),(.ret,⟨[cU,(3,oJ)],[(2,.var 163 [.nil])]⟩)]}),(127,{pre:=[.aY 39]}),(250,{pre:=[.dR 5 0 39 (.row [] 434 s9 [])],loop:=some ⟨[cU,fO,(21,fo),(22,aU),(23,aU)],aeG⟩})] 181 cJ [(false,⟨((3000002,N0)::jo),[]⟩)] (k1 Ej)
def agG:FS:=mkHh [cV,iJ,aj5] oQ 180 ⟨[dm,(1,.fn 181 [] [])],eX⟩ ((false,⟨[(3000004,N0)],eX⟩)::pU) (id) (id) (λ_=>rfl) (k1 PW)
def Qe:FS:=mkHh [cV,qd,agG,Wz,PM,CN] [aea,(14,{cut:=[(.normal,⟨ny,afa⟩),(.dx,⟨[],[lY]⟩)]}),(28,{pre:=[.dR 5 2 37 (.row [] 9 .str [])],loop:=some ⟨(dm::bT::ny),afa⟩}),(31,{pre:=[.aY 37]}),(224,{ow:=[16],ps:=[(16,cK)]}),(452,Oe),(1812,{rd:=[23]}),(3626,{ow:=[25],ps:=[(25,cK)]}),(7258,{ow:=[32],ps:=[(32,cK)]})] 102 ⟨[dm,bT],eX⟩ ((false,⟨[(3000004,.st p8)],eX⟩)::pU) (id) (id) (λ_=>rfl) (k2 jS)
def aib:FS:=mkHh [Qe,cV] [(7,{ow:=[36],kf:=[(2,.q [1001]),(3,.q [1001]),(4,.q [1001]),(6,nD),(8,.u [5002] false),(9,.q [1001]),(10,.q [1001]),(11,Vl)],ps:=[(36,bj)]}),(10,Of),(26,Vn)] 282 Vq Ii (id) (id) (λ_=>rfl) (λx=>JJ x.1 x.2.1 x.2.2.1 x.2.2.2.1 x.2.2.2.2.1 x.2.2.2.2.2.1 x.2.2.2.2.2.2.1 x.2.2.2.2.2.2.2.1 x.2.2.2.2.2.2.2.2.1 x.2.2.2.2.2.2.2.2.2.1 x.2.2.2.2.2.2.2.2.2.2.1 x.2.2.2.2.2.2.2.2.2.2.2.1 x.2.2.2.2.2.2.2.2.2.2.2.2.1 x.2.2.2.2.2.2.2.2.2.2.2.2.2.1 x.2.2.2.2.2.2.2.2.2.2.2.2.2.2.1 x.2.2.2.2.2.2.2.2.2.2.2.2.2.2.2.1 x.2.2.2.2.2.2.2.2.2.2.2.2.2.2.2.2.1 x.2.2.2.2.2.2.2.2.2.2.2.2.2.2.2.2.2.1)
def ahS:FS:=mkHh [Qe,cV] [(15,{ow:=[38],kf:=[(2,.q [1001,5004]),(3,.q [1001,5004]),(5,nD),(7,.u [5003,5005] false),(8,.q [1001,5004]),(9,.u [1001,5004] false)],ps:=[(38,bj)]}),(58,{ow:=[32],ps:=[(32,bj)]})] 283 Vq Ii (id) (id) (λ_=>rfl) (λx=>JA x.1 x.2.1 x.2.2.1 x.2.2.2.1 x.2.2.2.2.1 x.2.2.2.2.2.1 x.2.2.2.2.2.2.1 x.2.2.2.2.2.2.2.1 x.2.2.2.2.2.2.2.2.1 x.2.2.2.2.2.2.2.2.2.1 x.2.2.2.2.2.2.2.2.2.2.1 x.2.2.2.2.2.2.2.2.2.2.2.1 x.2.2.2.2.2.2.2.2.2.2.2.2.1 x.2.2.2.2.2.2.2.2.2.2.2.2.2.1 x.2.2.2.2.2.2.2.2.2.2.2.2.2.2.1 x.2.2.2.2.2.2.2.2.2.2.2.2.2.2.2.1 x.2.2.2.2.2.2.2.2.2.2.2.2.2.2.2.2.1 x.2.2.2.2.2.2.2.2.2.2.2.2.2.2.2.2.2.1)
def P7:FS:=mkG [] [p9,(26,{loop:=some ⟨(dD::(8,.c (.v (.sl vg)))::Bx),[]⟩})] 126 ⟨[(0,.st ku),dD],[]⟩ eJ (k2 tA)
def ag6:FS:=mkHh [cV,PM,P7] [(6,Vo),(10,{ow:=[14],ps:=[(14,bj)]}),(15,{pre:=[.aY 5005],post:=[.dR 5004 1 5005 (.row [] 165 a0a [])],rd:=[32]}),(28,{rd:=[21]}),(58,{ow:=[24],ps:=[(24,bj)]})] 284 Vq Ii (id) (id) (λ_=>rfl) (λx=>I8 x.1 x.2.1 x.2.2.1 x.2.2.2.1 x.2.2.2.2.1 x.2.2.2.2.2.1 x.2.2.2.2.2.2.1 x.2.2.2.2.2.2.2.1 x.2.2.2.2.2.2.2.2.1 x.2.2.2.2.2.2.2.2.2.1 x.2.2.2.2.2.2.2.2.2.2.1 x.2.2.2.2.2.2.2.2.2.2.2.1 x.2.2.2.2.2.2.2.2.2.2.2.2.1 x.2.2.2.2.2.2.2.2.2.2.2.2.2.1 x.2.2.2.2.2.2.2.2.2.2.2.2.2.2.1 x.2.2.2.2.2.2.2.2.2.2.2.2.2.2.2.1 x.2.2.2.2.2.2.2.2.2.2.2.2.2.2.2.2.1 x.2.2.2.2.2.2.2.2.2.2.2.2.2.2.2.2.2.1)
def ahT:FS:=mkHh [aib,ahz,ag6,ahS,cV,iJ,PM] [(2,{ow:=[7],ps:=[(7,bj)]}),(100,Of),(250,{cn:=[(3,N')],ps:=[(70,Oz)]}),(412,{cn:=[(2,N')],ps:=[(38,Oz)]}),(830,{ow:=[48],ps:=[(48,bj)]}),(1006,{cn:=[(3,N')],ps:=[(76,Oz)]}),(4030,{cn:=[(3,N')],ps:=[(82,Oz)]}),(4031,{ow:=[64],ps:=[(64,bj)]})] 175 ⟨[dm,jr],Pa⟩ Ii (id) (id) (λ_=>rfl) (λx=>JB x.1 x.2.1 x.2.2.1 x.2.2.2.1 x.2.2.2.2.1 x.2.2.2.2.2.1 x.2.2.2.2.2.2.1 x.2.2.2.2.2.2.2.1 x.2.2.2.2.2.2.2.2.1 x.2.2.2.2.2.2.2.2.2.1 x.2.2.2.2.2.2.2.2.2.2.1 x.2.2.2.2.2.2.2.2.2.2.2.1 x.2.2.2.2.2.2.2.2.2.2.2.2.1 x.2.2.2.2.2.2.2.2.2.2.2.2.2.1 x.2.2.2.2.2.2.2.2.2.2.2.2.2.2.1 x.2.2.2.2.2.2.2.2.2.2.2.2.2.2.2.1 x.2.2.2.2.2.2.2.2.2.2.2.2.2.2.2.2.1 x.2.2.2.2.2.2.2.2.2.2.2.2.2.2.2.2.2.1)
def agI:FS:=mkEach [ahT,cV,qd] ((61,{cut:=[(.normal,⟨[ri],afp⟩),(.dx,⟨[ri],((1100,.var 320 By)::(1101,VI)::sY::aeA)⟩)]})::(122,{loop:=some ⟨(Ve::U5),afp⟩})::(31334,{cn:=[(2,[5102,5103,5104,5105])],ps:=[(23,[(1000,1100),(1001,1101),(1020,20),(5002,5102),(5003,5103),(5004,5104),(5005,5105)])]})::VG) ⟨[(0,ke),Ve],VK⟩ ⟨[(0,ke),Ve,ri],(sY::VK)⟩ ⟨BL,VK⟩ ⟨BL,((1100,.var 320 By)::(1101,VI)::aeA)⟩ (id) (id) (λ_=>rfl) (λx=>PY x.1 x.2.1 x.2.2.1 x.2.2.2.1 x.2.2.2.2.1 x.2.2.2.2.2.1 x.2.2.2.2.2.2.1 x.2.2.2.2.2.2.2.1 x.2.2.2.2.2.2.2.2.1 x.2.2.2.2.2.2.2.2.2.1 x.2.2.2.2.2.2.2.2.2.2.1 x.2.2.2.2.2.2.2.2.2.2.2.1 x.2.2.2.2.2.2.2.2.2.2.2.2.1 x.2.2.2.2.2.2.2.2.2.2.2.2.2.1 x.2.2.2.2.2.2.2.2.2.2.2.2.2.2.1 x.2.2.2.2.2.2.2.2.2.2.2.2.2.2.2.1 x.2.2.2.2.2.2.2.2.2.2.2.2.2.2.2.2.1 x.2.2.2.2.2.2.2.2.2.2.2.2.2.2.2.2.2.1) (by kernel_rfl) (λx=>by kernel_rfl)
def ajQ:FS:=mkQ [agI,QE] [(116,vi),(124,{pre:=[.oL 702 (.row [] 165 a0a []),.oL 703 (.row [] 165 a0a []),.oL 705 (.row [] 165 a0a []),.oL 704 (.bF [] 154 (.pair .str (.sl a0a)) true [] [.v .str [],.ow 705 0 .all]),.dR 6 1 701 (.bF [] 150 (.pair .str (.pair (.pair (.pair (.int .i64) (.pair (.int .i64) (.int .i64))) .str) (.pair (.int .u64) (.pair (.int .u32) (.pair .bool (.pair (.sl a0a) (.pair (.sl a0a) (.sl (.pair .str (.sl a0a)))))))))) true [] [.v .str [],.v (.int .i64) 0,.v (.int .i64) 0,.v (.int .i64) 0,.v .str [],.v (.int .u64) 0,.v (.int .u32) 0,.v .bool false,.ow 702 0 .all,.ow 703 0 .all,.ow 704 0 .all])],cn:=[(2,[702,703,704,705])],ps:=[(19,[(1100,6),(1101,701),(5102,702),(5103,703),(5104,704),(5105,705)])]}),aeJ,(1004,vi)] 90 cJ [(false,⟨((3000002,.st G6)::uZ),[]⟩)] (k1 rJ)
def ahR:FS:=mkQ [ajQ,aja,agZ,amj] [(2045,{cut:=[(.normal,⟨[cU,sV,gu],afq⟩)]}),(2047,{pre:=[.aY 73]}),(4090,{pre:=[.dR 6 6 73 (.row [] 225 G6 [])],loop:=some ⟨[s8,cU,sV,gu,pR],((1,.var 24 [bm,bm,qa])::afq)⟩})] 37 ⟨[(0,.st mJ)],[]⟩ [(false,⟨((3000002,.st (.pair Cp (.pair (.int .u32) (.pair (.sl G6) (.pair O' (.pair .str (.sl vf)))))))::jo),[]⟩)] (k1 Df)
def ak4:FS:=mkQ [Qk,lj,vP,lh,Qh,Dj,Rc] [(125,{cut:=[(.normal,⟨[c9,(4,ke),(6,BJ)],[(3,nC),(59,lZ)]⟩),(.ret,⟨[(2,GC),c9],[(3,nC)]⟩)]}),(250,{pre:=[.dI 6 59 (.row [] 191 mJ [])],loop:=some ⟨(c9::(4,ke)::(6,BJ)::j8),[(3,nC),(59,lZ)]⟩}),(255,{pre:=[.aY 59]}),(16018,{ow:=[32],ps:=[(32,Bw)]}),(128154,{ow:=[48],ps:=[(48,Bw)]}),(128158,{ow:=[61],ps:=[(61,Bw)]}),(256318,{ow:=[63],ps:=[(63,Bw)]}),(512628,{ow:=[54],ps:=[(54,Bw)]}),(512629,{ow:=[57],ps:=[(57,Bw)]})] 38 cJ [(false,⟨((2,.c lf)::uZ),[]⟩)] (k1 zJ)
def ahl:FS:=mkHh [Qe,cV,iJ] [(4,{ow:=[6],ps:=[(6,cK)]}),(7,{ow:=[30],kf:=[(0,.q [1040]),(1,.q [1040]),(3,.u [1000] true),(5,.u [1041] false),(6,.q [1040]),(7,.u [1040] false)],ps:=[(30,cK)]}),(26,{ow:=[26],ps:=[(26,cK)]}),(94,{ow:=[20],ps:=[(20,cK)]})] 99 ⟨(dm::xM),aef⟩ [(false,⟨[],aef⟩),(true,⟨[],[lY,(1020,Ho),(1040,.var 123 [.dead]),(1041,lP)]⟩)] (id) (id) (λ_=>rfl) (k3 Jk)
def agB:FS:=mkEach [cV,qd,ahl] ((61,{cut:=[(.normal,⟨[ri],[oH,G7,xA,sY]⟩),(.dx,⟨[ri],[oH,(1200,.var 123 [.dead]),xA,sY]⟩)]})::(122,{loop:=some ⟨((1,.fn 99 [] BS)::U5),[oH,G7,xA,sY]⟩})::(31334,{ow:=[23],ps:=[(23,[(1000,20),(1020,1100),(1040,1200),(1041,1201)])]})::VG) ⟨[(0,ke),(1,.fn 99 [] BS)],[oH,G7,xA]⟩ ⟨[(0,ke),(1,.fn 99 [] BS),ri],[sY,oH,G7,xA]⟩ ⟨BL,[oH,G7,xA]⟩ ⟨BL,[oH,(1200,.var 123 [.dead]),xA]⟩ (id) (id) (λ_=>rfl) (λx=>PR x.1 x.2.1 x.2.2.1) (by kernel_rfl) (λx=>by kernel_rfl)
def aio:FS:=mkQ [agB,QE] [(116,vi),(126,{pre:=[.dR 6 0 606 (.row [] 165 p8 [])],ow:=[20],ps:=[(20,[(1100,7),(1200,6),(1201,606)])]}),(1023,{pre:=[.aY 606]}),(4084,vi)] 39 cJ [(false,⟨((3000002,.st re)::uZ),[]⟩)] (k1 yU)
def ahy:FS:=mkG [] [] 103 ⟨[(0,jK),(1,jK)],[]⟩ fv (k2 C')
def ajG:FS:=mkG [QX,P3] [] 412 cJ ve (k1 KA)
def aho:FS:=mkG [Wy] [] 433 lQ fv (k2 P9)
def akr:FS:=mkG [y',QX,P3,aho] [] 413 lQ fv (k2 KQ)
def ajb:FS:=mkG [akr,ajG] [(29,{cut:=[(.normal,⟨fJ,[]⟩)]}),(58,{loop:=some ⟨[dP,(5,aU),j9,(10,fo),Bv,xy],[]⟩})] 364 ⟨[dP,(1,fo)],[]⟩ eJ (k2 DP)
def Xl:FS:=mkG [ajb] [(29,{cut:=[(.normal,⟨[dD,(5,.c (.own 19))],[(19,eQ)]⟩)]}),(30,{rd:=[23]}),(58,{pre:=[.dI 5 19 (.row [] 9 .str [])],loop:=some ⟨(dD::(5,.c (.own 19))::(9,.c BK)::Hc),[(19,eQ)]⟩})] 288 BR eJ (k2 DV)
def alU:FS:=mkG [alG,CN] [(52,{ow:=[13],ps:=[(13,[(1,13)])]}),(53,{pre:=[.aY 13]}),(61,{cut:=[(.normal,⟨[(5,.c (.own 34))],[(34,eQ)]⟩)]}),(63,{pre:=[.aY 34]}),(122,{pre:=[.dI 5 34 (.row [] 9 .str [])],loop:=some ⟨(c9::(5,.c (.own 34))::(15,GO)::NZ),[(3,.var 405 [bm,cT,qa]),(34,eQ)]⟩})] 289 ⟨[uU,(1,.st yh)],[]⟩ Hd (k2 Lv)
def W5:FS:=mkG [y',Xl,alU] [(125,{cut:=[(.normal,⟨[(6,.c (.own 37))],[(37,eQ)]⟩)]}),(127,{pre:=[.aY 37]}),(250,{pre:=[.dI 6 37 (.row [] 9 .str [])],loop:=some ⟨[(6,.c (.own 37)),(25,GO),(26,aU),(27,aU)],[(37,eQ)]⟩})] 183 BR Hd (k2 yV)
def aiV:FS:=mkG [CN,W5] [] 104 ⟨(uU::dD::kX),[]⟩ BW (k3 DF)
def ahw:FS:=mkQ [Wv] [] 184 BR [(false,⟨[(3000004,nx),sV],[]⟩)] (k2 Qa)
def ahk:FS:=mkG [Wu,WB] [] 185 ⟨[uU,dD,(2,kg)],[]⟩ BW (k3 yG)
def alP:FS:=mkG [ahk,ahw] [] 105 ⟨[uU,(1,.st ku)],[]⟩ eJ (k2 Fg)
def aiw:FS:=mkG [I5,WG,aiB] [] 110 ⟨(uU::dD::kX),[]⟩ vd (k3 JX)
def Xb:FS:=mkG [I5,aiw,P8] [] 107 ⟨[(0,.st uV),(1,.st uV),(2,.c (.v (.ptr Cp)))],[]⟩ [(false,⟨fJ,[]⟩)] (k3 qi)
def afW:FS:=mkG [Xb] [(3,G4),(6,{loop:=some ad4}),(201,{cut:=[(.normal,ad4)]}),(402,{loop:=some ⟨(cQ::bT::dE::(3,lO)::vh),gX⟩})] 292 ⟨[cQ,bT,dE,(3,lO)],gX⟩ BO (k4 af1)
def af4:FS:=mkG [] [(3,G4),(6,{loop:=some ⟨[cQ,bT,dE,mE,pS],gX⟩})] 414 Vu BO λx=>agc x.1 x.2.1 x.2.2.1 x.2.2.2.1 x.2.2.2.2.1
def agh:FS:=mkG [af4] ((14,{cut:=[(.normal,⟨[cQ,dE,(4,lO),pS],gX⟩)]})::(15,{ow:=[57],ps:=[(57,cK)]})::(28,{loop:=some ⟨(cQ::dE::(4,lO)::Hc),gX⟩})::aeQ) 370 Vu BO λx=>agm x.1 x.2.1 x.2.2.1 x.2.2.2.1 x.2.2.2.2.1
def af8:FS:=mkRec [agh,Xb] ((86,{cut:=[(.normal,⟨[cQ,bT,pS],gX⟩)]})::(172,{loop:=some ⟨(cQ::bT::(4,lO)::Hc),gX⟩})::(214,{cut:=[(.normal,⟨[cQ,dE,nA],gX⟩)]})::(349,G4)::(428,{loop:=some ⟨(cQ::dE::(4,lO)::GN),gX⟩})::(510,{cut:=[(.normal,⟨[cQ,bT,dE,mE,(4,lO),sT,rb,(20,aU)],gX⟩)]})::(698,{loop:=some ⟨[cQ,pS,sW],gX⟩})::(861,G4)::(1020,{loop:=some ⟨[cQ,bT,dE,mE,(4,lO),sT,rb,(20,aU),(21,aU),(22,aU)],gX⟩})::(1722,{loop:=some ⟨[cQ,nA,(17,aU)],gX⟩})::ae6) 293 Vu BO (λo=>o.1) (λr=>(r,())) (λ_=>rfl) af9 (by kernel_rfl) (λrc ok x=>by kernel_rfl)
def agf:FS:=mkG [afW,af8] ((14,aes)::(28,aeI)::(30,aeO)::(31,G4)::(56,BM)::(62,{un:=[.s 0],loop:=some ⟨(cQ::bT::(2,lO)::oF),gX⟩})::(124,BM)::(452,{ow:=[18],ps:=[(18,cK)]})::(1994,aes)::(3988,aeI)::aeU) 186 ⟨[cQ,bT,(2,lO)],gX⟩ BO (k3 agl)
def agd:FS:=mkG [agf] [(1,Vb)] 106 ⟨[cQ,(1,lO)],gX⟩ BO (k2 CE)
def ajo:FS:=mkG [Xl] [] 192 BR fv (k2 DU)
def aif:FS:=mkG [CP] [] 194 ⟨[(0,.st uV),(1,.c (.v (.ptr (.sl uV)))),(2,.c N3),(3,.c ad6),(4,.c N3)],[]⟩ BW λx=>JK x.1 x.2.1 x.2.2.1 x.2.2.2.1 x.2.2.2.2.1
def ago:FS:=mkG [aif] [p9,(26,{loop:=some ⟨((0,BZ)::VB::jN),[]⟩})] 298 ⟨[(0,BZ),VB],[]⟩ eJ λx=>PB x.1 x.2.1 x.2.2.1 x.2.2.2.1 x.2.2.2.2.1
def age:FS:=mkG [ago] [] 193 ⟨[(0,BZ),VB],[]⟩ fv λx=>Iu x.1 x.2.1 x.2.2.1 x.2.2.2.1 x.2.2.2.2.1
def aj2:FS:=mkG [age,CP,ajo,W5] [(7,{cut:=[(.normal,⟨[],[(1020,vy)]⟩)]}),(14,{loop:=some ⟨(cU::c9::vh),[(2,Ox),(3,.var 127 [.own 1020]),(1020,vy)]⟩}),(14750,{rd:=[49]})] 111 ⟨[uU,jM],[(1020,vy)]⟩ [(false,⟨[],[(1020,vy)]⟩)] (k2 Ed)
def alQ:FS:=mkG [agd,aj2,ahy,aiV,alP] [(29,{cut:=[(.normal,⟨[c9,(7,GD)],[(3,Ox),(47,vy)]⟩)]}),(30,{pre:=[.xZ 3 Cp],ow:=[52],ps:=[(52,[(1000,47)])]}),(58,{pre:=[.dI 7 47 (.row [] 240 uV [])],loop:=some ae7}),(62,{un:=[.s 7],ow:=[55],ps:=[(55,[(1020,47)])]}),(127,{un:=[.s 6],pre:=[.aY 47]}),(7475,{cut:=[(.normal,ae7)]}),(14950,{loop:=some ⟨[(1,jK),c9,(7,GD),aty,(12,U8),sW,nA,(19,.c (.v (.sl ku))),(20,aU),(21,aU)],[(3,Ox),(9,.var 225 [bm,.v (.sl ku)]),(47,vy)]⟩})] 41 ⟨[uU,(1,jK),(2,U8)],[]⟩ [(false,⟨[(6,BZ)],[]⟩)] (k3 Lr)
def alR:FS:=mkG [] [(29,{cut:=[(.normal,⟨[(3,.c (.own 19))],[(19,.row 152 qb)]⟩)]}),(31,{pre:=[.aY 19]}),(58,{pre:=[.dI 3 19 (.row [] 152 qb [])],loop:=some ⟨((3,.c (.own 19))::(6,BZ)::jN),[(19,.row 152 qb)]⟩})] 40 ⟨[(0,BZ)],[]⟩ [(false,⟨[(2,xC)],[]⟩)] (k1 Ls)
def akh:FS:=mkG [] [(29,{cut:=[(.normal,⟨[(3,jK)],[]⟩)]}),(58,{loop:=some ⟨(u5::(3,jK)::fp),[]⟩})] 197 U9 [(false,⟨[(2,jK)],[]⟩)] (k1 Es)
def ala:FS:=mkG [] [(13,atA),(26,{loop:=some ⟨((0,jK)::(1,jK)::fJ),[]⟩})] 196 ⟨[(0,jK),(1,jK)],[]⟩ fv (k2 K9)
def ak0:FS:=mkG [XF,akh,ala] [] 112 lQ fv (k2 K6)
def ahe:FS:=mkG [] [(29,{cut:=[(.normal,⟨[NW],[(20,eQ)]⟩)]}),(31,{pre:=[.aY 20]}),(58,{pre:=[.dI 3 20 (.row [] 9 .str [])],loop:=some ⟨(s8::NW::fp),[(1,rC),(20,eQ)]⟩})] 303 ⟨[rf],[]⟩ [(false,⟨xD,[]⟩)] (k1 P6)
def alb:FS:=mkG [Kp,Q8,Q7] [] 380 lQ fv (k2 La)
def aki:FS:=mkG [Q8,Q7] [] 381 cJ ve (k1 Et)
def ajw:FS:=mkG [alb,aki] [(29,{cut:=[(.normal,⟨fJ,[]⟩)]}),(58,{loop:=some ⟨(dP::(1,fo)::Vd),[]⟩})] 302 ⟨[dP,(1,fo)],[]⟩ eJ (k2 D2)
def XY:FS:=mkG [ajw,ahe] [] 199 ⟨[rf,dD],[]⟩ eJ (k2 EY)
def apk:FS:=mkG [rU] [(53,{pre:=[.aY 15]}),(61,{cut:=[(.normal,⟨[(5,.c (.own 51))],[(51,eQ)]⟩)]}),(63,{pre:=[.aY 51]}),(122,{pre:=[.dI 5 51 (.row [] 9 .str [])],loop:=some ⟨(cU::c9::(5,.c (.own 51))::oF),[(2,rC),(3,.var 347 [bm,bm,qa]),(51,eQ)]⟩})] 200 ⟨[rf,(1,.st mJ)],[]⟩ Hd (k2 Mx)
def ajt:FS:=mkG [Kp,apk,XY] [(125,{cut:=[(.normal,⟨[(6,.c (.own 45))],[(45,eQ)]⟩)]}),(127,{pre:=[.aY 45]}),(250,{pre:=[.dI 6 45 (.row [] 9 .str [])],loop:=some ⟨(cU::(6,.c (.own 45))::j8),[(2,rC),(45,eQ)]⟩})] 113 ⟨[rf,dD],[]⟩ Hd (k2 DY)
def anP:FS:=mkG [rU] [(13,{cut:=[xN,(.ret,⟨[(6,jx)],[]⟩)]}),(26,{loop:=some ⟨((0,.c Gz)::dD::(2,fa)::j8),[]⟩})] 201 ⟨((0,.c Gz)::dD::kX),[]⟩ BW (k3 Aj)
def anM:FS:=mkG [anP,YA] [] 114 ⟨[rf,(1,.st yg)],[]⟩ eJ (k2 FC)
def Q9:FS:=mkG [] [] 304 ⟨[rh,bT],[]⟩ eJ (k2 rT)
def Kr:FS:=mkG [Q9] [(13,{cut:=((.normal,lQ)::Ha)}),(26,{loop:=some ⟨(dP::dD::fJ),[]⟩})] 202 lQ eJ (k2 qo)
def ald:FS:=mkG [DM,Kr,XI,Q9] [] 305 lQ eJ (k2 Ld)
def Xr:FS:=mkG [Q9,ald] [(29,aex),(58,{loop:=some ⟨(cU::c9::(5,ic)::(6,ic)::j8),[(2,pV),(3,pV)]⟩}),(125,aex),(250,{loop:=some ⟨(cU::c9::uX),[(2,pV),(3,pV)]⟩})] 203 ⟨[(0,.st vC),(1,.st vC)],[]⟩ eJ (k2 tI)
def anT:FS:=mkG [YF] [] 382 ⟨[(0,kg)],[]⟩ [(false,⟨[(2,kg)],[]⟩)] (k1 FD)
def ajy:FS:=mkG [anT] [] 308 ⟨[(0,kg),(1,kg)],[]⟩ eJ (k2 Kt)
def aju:FS:=mkG [Rb,ajy,Kr,WV] [] 204 ⟨(rf::dD::kX),[]⟩ vd (k3 DZ)
def ak3:FS:=mkG [Kr,Xr,Kq,aju] [] 115 ⟨[rf,(1,.st Hf),(2,.st Hf)],[]⟩ BW (k3 EW)
def akZ:FS:=mkG [] [p9,aej] 205 N9 eJ (k2 EU)
def ak2:FS:=mkG [XY,akZ] [(29,{cut:=[(.normal,⟨[Hh],[(12,GK)]⟩)]}),(31,{pre:=[.aY 12]}),(58,{loop:=some ael}),(14927,{cut:=[(.normal,ael)]}),(29854,{loop:=some ⟨[(1,pT),cU,Hh,j9,(8,fo),pR],[(2,rC),(12,GK)]⟩})] 116 ⟨[rf,(1,pT)],[]⟩ [(false,⟨[(4,pT)],[]⟩)] (k2 EV)
def anN:FS:=mkG [rU,ajt,ak3,ak2,ak0,anM] [(29,{cut:=[(.normal,⟨[c9,(7,pT)],[(3,rC)]⟩)]}),(58,{loop:=some aep}),(1865,{cut:=[(.normal,aep)]}),(3730,{loop:=some ⟨(dD::Oa::c9::(7,pT)::vh),[(3,rC)]⟩}),(7460,{post:=[.aY 85]}),(1909918,{cut:=[(.normal,afh)]}),(3819836,{loop:=some afh})] 43 ⟨[rf,dD,Oa],[]⟩ [(false,⟨[(6,pT)],[]⟩)] (k3 L3)
def anO:FS:=mkG [] [(29,{cut:=[(.normal,⟨[(3,GH)],[(23,GK)]⟩)]}),(31,{pre:=[.aY 23]}),(58,{pre:=[.dI 3 23 (.row [] 136 Hf [])],loop:=some ⟨(u7::(3,GH)::fp),[(23,GK)]⟩})] 42 ⟨[u7],[]⟩ [(false,⟨[(2,pT)],[]⟩)] (k1 L4)
def WX:FS:=mkQ [ahR,aio,ak4,anO,anN,alR,alQ] [(1022,{kf:=[(0,.q [10]),(1,.q [10]),(2,.q [10]),(3,bS),(4,.q [10]),(5,.q [10]),(6,bS),(8,Ol)]})] 10 ⟨[atz],[]⟩ [(false,⟨(atB::jo),[]⟩)] (k1 yS)
def ais:FS:=mkG [] (aek::afk) 45 ⟨[(0,nE)],[]⟩ [(false,⟨[(2,.c (.own 27))],[(27,BY)]⟩)] (k1 Dt)
def aji:FS:=mkG [] (aek::(31,{pre:=[.aY 27]})::afk) 45 ⟨[(0,nE)],[]⟩ [(false,⟨[(2,u6)],[]⟩)] (k1 tH)
def ag4:FS:=mkG [] [(29,{cut:=[(.normal,⟨[uR],xE⟩),(.ret,⟨[(2,Ot)],xE⟩)]}),(58,{loop:=some ⟨[uR,mE],xE⟩}),(29845,{cut:=[(.normal,⟨[uR,mE],xE⟩)]}),(59690,{loop:=some ⟨(uR::mE::(4,.c (.nJ 5000))::fJ),xE⟩}),(59694,{cn:=[(2,[5000])]})] 48 ⟨[uR],xE⟩ [(false,⟨[(2,Ot)],xE⟩)] (k1 CX)
def ahY:FS:=mkG [] [] 16 ⟨[jq],[]⟩ ve (k1 yO)
def WM:FS:=mkG [] [(29,{cut:=[(.normal,⟨[(5,.c (.own 29))],[(29,jL)]⟩)]}),(31,{pre:=[.aY 29]}),(58,{pre:=[.dI 5 29 (.row [] 59 vB [])],loop:=some aeD}),(14951,{cut:=[(.normal,aeD)]}),(29902,{loop:=some ⟨[bT,(5,.c (.own 29)),j9,(17,nE),sT,rb,(32,aU),(33,aU)],[(29,jL)]⟩})] 52 Vm [Vf] (k2 yH)
def XS:FS:=mkG [] [(29,{cut:=[(.normal,⟨[(5,GH)],[(23,gI)]⟩)]}),(58,{pre:=[.dI 5 23 (.row [] 3 gj [])],loop:=some ⟨(dD::(5,GH)::(8,xC)::Bx),[(23,gI)]⟩})] 124 ⟨[(0,xC),dD],[]⟩ [(false,⟨[(4,GH)],[(23,gI)]⟩)] (k2 EJ)
def aik:FS:=mkG [P1] [] 384 ⟨[(0,.st u4)],[]⟩ iI (k1 JP)
def ahH:FS:=mkG [aik,ahG] [(29,{cut:=((.normal,⟨[s8],[(1,.var 163 [u9])]⟩)::Hn)}),(58,{loop:=some aeB}),(14951,{cut:=((.normal,aeB)::Hn)}),(29902,{loop:=some ⟨[s8,(18,.c u9),rb,(20,aU),(32,.c (.v s9)),(33,aU),(34,aU)],[(1,.var 163 [u9])]⟩})] 315 ⟨[(0,N0)],[]⟩ iI (k1 Ju)
def aix:FS:=mkG [agT] [] 425 ⟨[(0,.st u4)],[]⟩ [(false,⟨[(3000002,nx)],[]⟩)] (k1 JZ)
def ah3:FS:=mkG [aix,P8] [] 386 ⟨[(0,.st u4),(1,nx)],[]⟩ fv (k2 JE)
def aiU:FS:=mkG [] [] 387 ⟨[(0,nx),(1,nx)],[]⟩ fv (k2 Xz)
def al2:FS:=mkG [ah3,aiU] [(29,{cut:=[(.normal,⟨[sV],[]⟩),(.ret,⟨[(4,oJ)],[]⟩)]}),(58,{loop:=some ⟨[c9,sV,(11,.c (.v s9)),xy,sW],[(3,nF)]⟩})] 317 ⟨[(0,.c (.v s9)),(1,nx)],[]⟩ fv (k2 Lw)
def aij:FS:=mkG [ahH,al2,P1] [(29,Ou),(58,{loop:=some ⟨[c9,(16,.c u9),(17,aU),sT],[(3,nF)]⟩})] 219 ⟨[(0,N0),(1,nx)],[]⟩ fv (k2 JN)
def Xj:FS:=mkG [aij] [] 218 ⟨[rh,(1,.c (.v (.ptr p8))),(2,.c (.v (.ptr (.sl qb))))],[]⟩ fv (k3 zd)
def agw:FS:=mkG [Xj] [p9,(26,{loop:=some ⟨(u5::Ov::jN),[]⟩})] 138 ⟨[u5,Ov],[]⟩ eJ (k3 PI)
def agv:FS:=mkG [agw,Xj] [(6,{rd:=[10]}),atw,(122,{loop:=some ⟨(uR::Ov::Vd),Oh⟩}),(126,{cn:=[(2,[5000])]})] 64 ⟨[uR,Ov],Oh⟩ [(false,⟨[(4,Ot)],Oh⟩)] (k3 IE)
def QL:FS:=mkG [agv,XS] [(6,{pre:=[.xZ 3 p8,.xZ 2 (.sl qb)],ow:=[8],cn:=[(5,[8])],ps:=[(8,[(23,8)]),(10,[(5000,8)])]})] 125 ⟨[(0,xC),(1,.st p8)],[]⟩ [(false,⟨[(4,.c (.own 8))],[(8,gI)]⟩)] (k2 zD)
def WS:FS:=mkG [QL,XS] [(28,{ow:=[25],kf:=[(2,bS),(3,bS),(6,bS),(7,bS),uS,(10,bS),(11,bS),(12,bS),(13,.u [25] false),(14,.q [25])],ps:=[(25,[(23,25)])]}),(29,{cut:=[(.normal,⟨[jq,bT,GP],[(39,jL)]⟩)]}),(58,{pre:=[.dI 5 39 (.row [] 59 vB [])],loop:=some ⟨[jq,bT,GP,(25,.c (.own 25)),(26,aU),(27,aU)],[(25,gI),(39,jL)]⟩}),(61,{cut:=[(.normal,⟨[GP],[(39,jL)]⟩)]}),(63,{pre:=[.aY 39]}),(122,{loop:=some aeK}),(15666,{ow:=[61],kf:=[(2,bS),(3,bS),(4,.q [9]),(5,.u [61] false),(6,.q [61])],ps:=[(61,[(8,61)])]}),(15667,{cut:=[(.normal,aeK)]}),(31334,{loop:=some ⟨[jq,bT,GP,(8,aU),(49,nE),(50,aU),(51,aU),(61,GI),(62,aU),(63,aU)],[(39,jL),(61,gI)]⟩})] 53 Vm [Vf] (k2 yK)
def WI:FS:=mkG [P7] [(29,{cut:=[(.normal,⟨[NX],[(52,jL)]⟩)]}),(31,{pre:=[.aY 52]}),(58,{pre:=[.dI 5 52 (.row [] 59 vB [])],loop:=some aeE}),(59807,{cut:=[(.normal,aeE)]}),(119614,{loop:=some afb}),(30621287,{cut:=[(.normal,afb)]}),(61242574,{loop:=some ⟨[jq,bT,NX,j9,pR,(15,u6),(16,aU),(17,aU),(65,nE),(66,aU),(67,aU),(81,aU),(82,aU)],[(52,jL)]⟩})] 54 Vm [Vf] (k2 yA)
def akD:FS:=mkG [] [(29,{cut:=[(.normal,⟨[mE],[]⟩),(.ret,⟨[dE],[]⟩)]}),(58,{loop:=some ⟨(mE::(6,ic)::jN),[]⟩})] 128 U9 ve (k1 KV)
def W1:FS:=mkG [Js,akD] [] 56 ⟨((0,GU)::GJ),[]⟩ eJ (k2 qh)
def afS:FS:=mkG [W1] [(3,G1),(6,{loop:=some ad2}),(201,{cut:=[(.normal,ad2)]}),(402,{loop:=some ⟨(cQ::bT::dE::(3,lL)::vh),ie⟩})] 220 ⟨[cQ,bT,dE,(3,lL)],ie⟩ BN (k3 Cy)
def afZ:FS:=mkG [] [(3,G1),(6,{loop:=some ⟨[cQ,bT,dE,mE,pS],ie⟩})] 388 Vs BN (k4 CB)
def agb:FS:=mkG [afZ] ((14,{cut:=[(.normal,⟨[cQ,dE,(4,lL),pS],ie⟩)]})::(15,{ow:=[57],ps:=[(57,cK)]})::(28,{loop:=some ⟨(cQ::dE::(4,lL)::Hc),ie⟩})::aeQ) 318 Vs BN (k4 Is)
def af3:FS:=mkRec [agb,W1] ((86,{cut:=[(.normal,⟨[cQ,bT,pS],ie⟩)]})::(172,{loop:=some ⟨(cQ::bT::(4,lL)::Hc),ie⟩})::(214,{cut:=[(.normal,⟨[cQ,dE,nA],ie⟩)]})::(349,G1)::(428,{loop:=some ⟨(cQ::dE::(4,lL)::GN),ie⟩})::(510,{cut:=[(.normal,⟨[cQ,bT,dE,mE,(4,lL),sT,rb,(20,aU)],ie⟩)]})::(698,{loop:=some ⟨[cQ,pS,sW],ie⟩})::(861,G1)::(1020,{loop:=some ⟨[cQ,bT,dE,mE,(4,lL),sT,rb,(20,aU),(21,aU),(22,aU)],ie⟩})::(1722,{loop:=some ⟨[cQ,nA,(17,aU)],ie⟩})::ae6) 221 Vs BN (λo=>o.1) (λr=>(r,())) (λ_=>rfl) Io (by kernel_rfl) (λrc ok x=>by kernel_rfl)
def aga:FS:=mkG [afS,af3] ((14,aer)::(28,aeH)::(30,aeO)::(31,G1)::(56,BM)::(62,{un:=[.s 0],loop:=some ⟨(cQ::bT::(2,lL)::oF),ie⟩})::(124,BM)::(452,{ow:=[18],ps:=[(18,cK)]})::(1994,aer)::(3988,aeH)::aeU) 127 ⟨[cQ,bT,(2,lL)],ie⟩ BN (k2 Ir)
def af5:FS:=mkG [aga] [(1,Vb)] 55 ⟨[cQ,(1,lL)],ie⟩ BN (k1 yk)
def WT:FS:=mkG [af5,WI,WS,WM] [(61,{cut:=[(.normal,⟨[jq,GQ],[(24,jL)]⟩)]}),(122,{pre:=[.dI 3 24 (.row [] 59 vB [])],loop:=some aeo}),(125,{cut:=[(.normal,⟨[GQ],[(24,jL)]⟩)]}),(126,{ow:=[64],ps:=[(64,[(1000,24)])]}),(250,{loop:=some ⟨[jq,GQ,(43,aU),(44,aU)],[(24,jL)]⟩}),(255,{un:=[.s 2],pre:=[.aY 24]}),(31335,{cut:=[(.normal,aeo)]}),(62670,{loop:=some ⟨[jq,GQ,(4,aU),(13,nE),nA,(15,aU),(27,aU),(28,aU)],[(24,jL)]⟩})] 17 ⟨[jq],[]⟩ [(false,⟨[(2,Hg)],[]⟩)] (k1 vM)
def akA:FS:=mkHh [ais,ag4,akN,WT,ahY,aji] [(6,{ow:=[14],ps:=[(14,[(27,14)])]}),(29,{cut:=[(.normal,⟨[(6,.c (.ptr 16 0))],VE⟩)]}),(30,{ow:=[60],ps:=[(60,[(1000,14)])]}),(58,{loop:=some aet}),(62,{un:=[.v 16 2],gx:=[(5,[.VX 16 [VR,.v re,.dead]])],cn:=[(5,[14])],ps:=[(66,[(5000,14)])]}),(252,{pre:=[.aY 14,.xZ 16 (.pair (.sl qb) (.pair re BD))],rd:=[70]}),(7474,{kf:=[(3,.q [16]),(4,.q [16]),(5,.q [8]),(6,.q [8]),(7,.q [8]),(9,.u [14] false),(11,.q [16]),(12,.u [16] false)]}),(14951,{cut:=[(.normal,aet)]}),(29902,{loop:=some ⟨[(6,.c (.ptr 16 0)),(17,xC),sT,rb,(37,.c (.v (.sl vg))),(38,aU),(39,aU)],VE⟩}),(1913753,{kf:=[(3,.q [16]),(4,.q [16]),(5,.q [10]),(6,.q [10]),(8,.u [14] false),(10,.q [16]),(11,.u [16] false)]})] 13 ⟨[(0,xC),(1,nE)],[]⟩ [(false,⟨((4,aeu)::fJ),[]⟩),(false,⟨((4,.c .np)::fJ),[]⟩)] (id) (id) (λ_=>rfl) (k2 KU)
def ahp:FS:=mkG [] [p9,(26,{loop:=some ⟨((0,Hg)::c9::jN),[(3,.var 59 (cT::cT::B4))]⟩})] 223 ⟨((0,Hg)::GJ),[]⟩ eJ (k2 P')
def agU:FS:=mkG [ahp] [] 130 ⟨((0,Hg)::GJ),[]⟩ fv (k2 nN)
def ahE:FS:=mkG [WT,WI,WS,WM,agU] [] 57 Va fv (k2 l9)
def ahm:FS:=mkG [QL] [aeV,aen,aem] 59 ⟨[jq,(1,.st p8)],[]⟩ [(false,⟨[(4,.c (.own 12))],[(12,gI)]⟩)] (k2 C7)
def ajh:FS:=mkG [I5] [] 47 ⟨((0,.st rB)::Od),[]⟩ eJ (k2 DQ)
def af7:FS:=mkQ [ajh] [(30,{cut:=[(.normal,⟨(nz::(2,.fn 47 [] [])::iY::vh),[(4,.var 81 [bm,bm])]⟩)]}),(60,{loop:=some ⟨(nz::(2,.fn 47 [] [])::iY::(8,aU)::Bx),[(4,.var 81 [bm,bm])]⟩})] 79 ⟨[nz,(1,.st rB),(2,.fn 47 [] [])],[]⟩ [(false,⟨[j9,(7,jx)],[]⟩)] (k2 Iq)
def Qb:FS:=mkG [af7] [] 32 ⟨(jq::Od),[]⟩ eJ (k2 tD)
def ahX:FS:=mkG [Qb] [] 60 ⟨[jq,(1,.st p8),dE],[]⟩ vd (k3 yN)
def ahc:FS:=mkG [P7] [] 61 Va [(false,⟨[(3000004,.st vg)],[]⟩)] (k2 CZ)
def ahW:FS:=mkG [QL] [aeV,aen,(31,{pre:=[.aY 12]}),aem] 59 ⟨[jq,(1,.st p8)],[]⟩ Vz (k2 JD)
def ahn:FS:=mkQ [akC,ahm,ahX,ahc,ahW,ahE] [(62,{ow:=[124]}),(254,{ow:=[159],ps:=[(159,[(1000,124)])]}),(980,{ow:=[33,34],kf:=[(3,bS),(4,bS),(5,dC),(6,dC),(7,bS),(8,bS),(9,.u [33] false),(10,.u [33] false)],ps:=[(33,[(12,33)]),(34,[(1000,33)])]}),(2026,{kf:=[(3,dC),(6,dC),(7,dC),(8,bS),uS,(11,.u [124] false)]}),(3932,{ow:=[49]}),(3933,{pre:=[.aY 49]}),(15740,{ow:=[57,58],ps:=[(58,[(1000,57)])]}),(62972,{ow:=[76,80],kf:=[(3,bS),(4,bS),(5,dC),(6,dC),(7,bS),(8,bS),uS,(10,bS),(11,dC),(12,dC),(13,bS),(14,bS),(15,.u [76] false),(18,.u [76] false),(19,.u [76] false)],ps:=[(76,[(12,76)]),(80,[(1000,76)])]}),(251900,{ow:=[102,103],kf:=[(4,bS),(5,bS),(6,dC),(7,dC),(8,bS),uS,(10,bS),(11,bS),(12,dC),(13,dC),(14,bS),(15,bS),(16,dC),(17,dC),(19,.u [102] false),(20,.u [102] false)],ps:=[(103,[(1000,102)])]}),(1007612,{ow:=[111,112],ps:=[(112,[(1000,111)])]})] 21 Va [(false,⟨[(4,ic),sV],[]⟩)] (k2 fP)
def anJ:FS:=mkG [Kr] [(14,{cut:=[(.normal,⟨(nz::c9::fJ),[Vy]⟩),(.ret,⟨[(4,u6)],[]⟩)]}),(28,{loop:=some ⟨(nz::c9::fJ),[Vy]⟩}),(127,{pre:=[.aY 41]})] 117 atv [(false,⟨[(4,u6)],[]⟩)] (k2 L1)
def akY:FS:=mkG [anJ] [(13,{cut:=[(.normal,⟨[nz],[]⟩)]}),(26,{loop:=some ⟨(nz::G2::fJ),[]⟩}),(841,{cut:=[(.normal,⟨(nz::G2::fJ),[]⟩)]}),(1682,{loop:=some ⟨(nz::G2::Vd),[]⟩})] 44 ⟨[nz,G2],[]⟩ [(false,⟨[(4,u6)],[]⟩)] (k2 zH)
def anK:FS:=mkG [akY] [(29,{cut:=[(.normal,⟨ny,Oq⟩)]}),(58,{loop:=some ⟨(u7::iY::fO::oF),Oq⟩}),(3731,{cut:=[(.normal,⟨(u7::iY::fO::oF),Oq⟩)]}),(7462,{loop:=some ⟨(u7::iY::fO::j9::j8),Oq⟩})] 12 ⟨[u7,G2],[]⟩ [(false,⟨[(3000004,afl)],[]⟩)] (k2 L2)
def anS:FS:=mkG [] [] 331 ⟨[rh,(1,.st vC)],[]⟩ [(false,⟨[(3000004,.st vC)],[]⟩)] (k2 L7)
def alc:FS:=mkG [Xr,anS] [] 232 ⟨[(0,.st BF),(1,.st vC)],[]⟩ fv (k2 Lb)
def anR:FS:=mkG [alc] [(13,Ou),(26,{loop:=some ⟨((0,BX)::c9::fJ),[(3,pV)]⟩}),(3365,{cut:=[(.normal,⟨[(0,BX),c9,(5,aU),(6,jx),(7,jx)],[(3,pV)]⟩)]}),(6730,{loop:=some ⟨((0,BX)::c9::(5,aU)::(6,jx)::(7,jx)::uX),[(3,pV)]⟩})] 146 ⟨[(0,BX),(1,.st vC)],[]⟩ fv (k2 L6)
def aad:FS:=mkG [Kq,anR,X0] [(61,{cut:=[(.normal,⟨[(7,.c (.own 56))],[(56,gI)]⟩)]}),(63,{pre:=[.aY 56]}),(122,{pre:=[.dI 7 56 (.row [] 3 gj [])],loop:=some ⟨(u7::c9::(5,BX)::(6,jx)::(7,.c (.own 56))::uX),[(3,.var 191 [bm,bm,qa]),(56,gI)]⟩})] 122 ⟨[u7,(1,.st mJ)],[]⟩ Vz (k2 FM)
def W6:FS:=mkG [aad] [(61,{cut:=[(.normal,⟨[Oi],[(25,gI)]⟩)]}),(63,{pre:=[.aY 25]}),(122,{pre:=[.dI 5 25 (.row [] 3 gj [])],loop:=some ⟨(Oi::(6,ic)::j8),[(25,gI)]⟩})] 121 ⟨[xz,(1,.st mJ)],[]⟩ Vz (k2 rH)
def K5:FS:=mkG [] [(13,Ou),(26,{loop:=some ⟨(u5::bT::fJ),[]⟩})] 216 ⟨[u5,bT],[]⟩ fv (k2 tY)
def anL:FS:=mkG [] [] 314 N5 ve (k1 wL)
def XE:FS:=mkG [anL] [] 217 ⟨[rh,bT],[]⟩ fv (k2 Eo)
def Q5:FS:=mkQ [XE,K5] [(29,{cut:=[(.normal,⟨[(3,ic)],[(1000,gI)]⟩)]}),(58,{loop:=some ⟨(cQ::(3,ic)::fp),[(1000,gI)]⟩}),(116,{post:=[.aY 41]}),(7462,{cut:=[(.normal,aee)]}),(14924,{loop:=some aee})] 120 ⟨[cQ],[(1000,gI)]⟩ [(false,⟨[U6],[(1000,gI)]⟩)] (k1 kE)
def Qj:FS:=mkG [] [p9,(26,{loop:=some ⟨(cU::c9::fJ),[(2,vE),Vy]⟩})] 33 ⟨(xz::Od),[]⟩ eJ (k2 oW)
def agP:FS:=mkG [Q5,Qj,W6] [(13,{cut:=[(.normal,⟨[(1,GI)],[(61,s6)]⟩)]}),(26,{pre:=[.dI 1 61 (.row [] 63 Pd [])],loop:=some aeL}),aff,(6734,{ow:=[58],kf:=[(1,.q [12]),(4,BH),(5,oE),(8,bS),uS,(11,BH),(12,BH),(15,.u [61] false)],ps:=[(58,[(1000,50)])]}),(13471,{cut:=[(.normal,aeL)]}),(26942,{loop:=some ⟨((1,GI)::aeW),[(5,vE),(8,B1),(13,B1),(61,s6)]⟩}),(1724307,{ow:=[108],kf:=[(1,.q [15]),(4,BG),(5,oE),(8,bS),uS,(10,bS),(13,bS),(14,bS),(15,bS),(17,bS),(18,bS),(22,BG),(23,BG),(26,.u [61] false)],ps:=[(108,[(1000,89)])]})] 49 ⟨[xz,(1,GC),(2,.c lf),(3,GU),(4,ic)],[]⟩ [(false,⟨[(10,GI)],[(61,s6)]⟩)] (k4 CO)
def aka:FS:=mkG [XE,K5] [atu,atx,(116,{post:=[.aY 41]}),(7462,{cut:=[(.normal,afe)]}),(14924,{loop:=some afe})] 120 U9 [(false,⟨[U6],[]⟩)] (k1 En)
def ahK:FS:=mkG [Q5,Qj,W6] [(13,aec),(26,{loop:=some ad7}),aff,(6734,{ow:=[58],kf:=[(1,.q [12]),(4,BH),(5,oE),(8,bS),uS,(11,BH),(12,BH),(15,oI)],ps:=[(58,[(1000,50)])]}),(13471,{cut:=[(.normal,ad7)]}),(26942,{loop:=some ⟨(jM::aeW),((5,vE)::(8,B1)::(13,B1)::uY)⟩}),(1724307,{ow:=[108],kf:=[(1,.q [15]),(4,BG),(5,oE),(8,bS),uS,(10,bS),(13,bS),(14,bS),(15,bS),(17,bS),(18,bS),(22,BG),(23,BG),(26,oI)],ps:=[(108,[(1000,89)])]})] 49 ⟨[xz,jM,(2,.c lf),(3,GU),(4,ic)],uY⟩ [(false,⟨[(10,.c (.own 1020))],uY⟩)] λx=>Dc x.1 x.2.1 x.2.2.1 x.2.2.2.1 x.2.2.2.2.1
def amg:FS:=mkG [] [p9,(26,{loop:=some ⟨(dD::cU::fJ),[(2,aev)]⟩})] 72 ⟨[(0,.st yg),dD],[]⟩ eJ (k2 LB)
def aiC:FS:=mkG [ahK,aad,aka,amg] [(29,aeM),(30,{ow:=[65],ps:=[(65,[(1020,1020)])]}),(58,{loop:=some ⟨(jM::dE::c9::B0::uX),Cs⟩}),(125,aeM),(250,{loop:=some ⟨[jM,dE,c9,B0,pR],Cs⟩}),(253,aec),(506,{loop:=some ⟨[jM,dE,c9,B0,xy],Cs⟩}),(32403,{cut:=[(.normal,⟨[jM,dE,c9,B0,xy],Cs⟩)]}),(64806,{loop:=some ⟨[jM,dE,c9,B0,xy,(13,ic),nA],Cs⟩}),(128159,{ow:=[123],kf:=[(0,dC),(2,.q [7]),(3,.q [7]),(5,bS),(6,bS),(7,bS),(12,oI)],ps:=[(123,[(1020,1020)])]})] 50 ⟨[xz,jM,dE],uY⟩ [(false,⟨[(6,.c (.own 1020))],uY⟩)] (k3 J0)
def aj9:FS:=mkG [] [(29,{cut:=[xN,(.ret,⟨sU,[]⟩)]}),(58,{loop:=some ⟨((5,ic)::(6,ic)::j8),[]⟩})] 123 ⟨((0,GU)::GJ),[]⟩ fv (k2 KN)
def aj8:FS:=mkRec [aj9] [(126,{cut:=[(.normal,⟨[(5,.c (.own 64))],[(64,s6)]⟩)]}),(252,{pre:=[.dI 5 64 (.row [] 63 Pd [])],loop:=some ⟨((3,Hi)::(4,Hi)::(5,.c (.own 64))::j9::j8),[(64,s6)]⟩}),(255,{pre:=[.aY 64]})] 51 ⟨[(0,Hi)],[]⟩ [(false,⟨[(2,Hi)],[]⟩)] (λo=>o.1) (λr=>(r,())) (λ_=>rfl) tF (by kernel_rfl) (λrc ok x=>by kernel_rfl)
def ail:FS:=mkG [agP,aiC,aj8] [(6,{ow:=[9],ps:=[(9,[(61,9)])]}),(29,{cut:=[(.normal,⟨[(3,.c (.own 9))],[(9,s6)]⟩)]}),(30,{pre:=[.aY 9]}),(58,{loop:=some ⟨(s8::(3,.c (.own 9))::fp),[(1,vE),(9,s6)]⟩}),(932,{ow:=[20],ps:=[(20,[(1020,9)])]})] 14 ⟨[xz],[]⟩ [(false,⟨[(2,Hi)],[]⟩)] (k1 Dr)
def aiD:FS:=mkG [] [] 15 ⟨[xz],[]⟩ ve (k1 J1)
section
open Go.WideShapes
theorem FO{H:Type}{enc:TypeId×Value->H}{P:Program}{W:World}{base n:Nat}{sp:Nat->Bool}{held:Bool}{D:Array Field}{l:List Value}{xs:List (DataW H×List MemPlace)}
  (hf:∀(i:Nat) (f:Field),D[i]? =some f->DataW.trod enc P W base sp held n f.type ((l.drop f.offset).take (P.cellsOf f.type))=xs[i]?) (i:Nat) {f:Field} (J:D[i]? =some f) {t o c:Nat} (h1:f.type=t) (h2:f.offset=o) (F:P.cellsOf t=c):
  DataW.trod enc P W base sp held n t ((l.drop o).take c)=xs[i]? :=by
 subst h1;subst h2;subst F;exact hf i f J
def StrC(w:World)(cs:List Value)(x:List UInt8):Prop:=cs=[.string ⟨x.toArray⟩]
theorem ano{w:World}{v:Value}{l:List (List UInt8)}(h:RowOf 1 StrC w v l):CR ⟨λ_=>undef,λb _=>b<w.heap.size⟩ fq w v (.v (.sl .str) l):=by
 rcases h with⟨a,cap,rfl,rfl,_⟩|⟨b,off,cap,rfl,h1,h2,F,J⟩
 ·exact⟨rfl,a,cap,rfl,.inl rfl⟩
 ·refine⟨rfl,_,cap,rfl,.inr ⟨h1,h2,b,off,rfl,λi x D=>⟨F,?_⟩⟩⟩;have L:=(ay9.1 D).1;obtain⟨cs,hc,M⟩:=J i L;have:=hc.2 0 (by omega)
  rw[show off+(i*wid .str+0)=off+i*1+0 from rfl]
  rw[this,M];simp [(ay9.1 D).2]
section
variable {H:Type} {enc:TypeId×Value->H} {W:World} {base:Nat} {sp:Nat->Bool} {held:Bool}
theorem R6{n:Nat}{v:Value}{y:DataW H×List MemPlace}(h:DataW.trod enc at1 W base sp held n 9 [v]=some y):∃s:ByteArray,v=.string s:=by obtain⟨s,e,_⟩:=DataW.trod_string Tryz.underlying9 h;simp only[List.cons.injEq,and_true]at e;exact⟨s,e⟩
theorem M9:at1.cellsOf 9=1:=by kernel_rfl
theorem asx:at1.cellsOf 22=1:=by kernel_rfl
theorem arL:at1.cellsOf 24=3:=by kernel_rfl
theorem asy:at1.cellsOf 26=4:=by kernel_rfl
theorem ann{n:Nat}{v:Value}{y:DataW H×List MemPlace}(h:DataW.trod enc at1 W base sp held n 22 [v]=some y):∃l:List (List UInt8),RowOf 1 StrC W v l:=by
 obtain⟨v',l,e,D⟩:=akQ (α:=List UInt8) (R:=StrC) Tryz.underlying22 M9 (by decide) (λm cs y F=>by obtain⟨s,e,_⟩:=DataW.trod_string Tryz.underlying9 F;exact⟨s.data.toList,e⟩) h
 simp only[List.cons.injEq,and_true]at e;subst e;exact⟨l,D⟩
theorem am1{n:Nat}{a0 F a2 a3:Value}{y:DataW H×List MemPlace}(h:DataW.trod enc at1 W base sp held n 26 [a0,F,a2,a3]=some y):
  ∃(p t m:ByteArray) (l:List (List UInt8)),a0=.string p/\F=.string t/\a3=.string m/\RowOf 1 StrC W a2 l:=by
 obtain⟨xs,n,_,J,M,N,hf⟩:=DataW.trod_struct Tryz.underlying26 h;have f0:=FO hf 0 rfl (t:=24) (o:=0) rfl rfl arL;have f1:=FO hf 1 rfl (t:=9) (o:=3) rfl rfl M9;clear hf M h
 match xs,N,J with
 |[Z,x1],_,J=>
  simp only[aI2,ax7,aE8,aG6,aI3,aI9]at f0 f1;obtain⟨m,rfl⟩:=R6 f1;obtain⟨Y,q,_,L,_,O,D⟩:=DataW.trod_struct Tryz.underlying24 f0;have g0:=FO D 0 rfl (t:=9) (o:=0) rfl rfl M9;have g1:=FO D 1 rfl (t:=9) (o:=1) rfl rfl M9;have g2:=FO D 2 rfl (t:=22) (o:=2) rfl rfl asx;clear D
  match Y,O,L with
  |[z0,z1,z2],_,L=>simp only[aI2,ax7,aE8,aG6,aI3,aI9]at g0 g1 g2;obtain⟨p,rfl⟩:=R6 g0;obtain⟨t,rfl⟩:=R6 g1;obtain⟨l,U⟩:=ann g2;exact⟨p,t,m,l,rfl,rfl,rfl,U⟩
end
end
section
open Go.WideShapes
section
variable {H:Type} {enc:TypeId×Value->H} {W:World} {base:Nat} {sp:Nat->Bool} {held:Bool}
theorem case_open{cs:Array Value}{d:DataW H}{ps:List MemPlace}(h:DataW.Trod enc at1 W base sp held 26 (.agg cs) d ps):
  ∃(p t m:ByteArray) (J:Value) (O:List (List UInt8)),cs= #[.string p,.string t,J,.string m]/\RowOf 1 StrC W J O:=by
 obtain⟨m,hm⟩:=h;obtain⟨_,_,_,N,F,_,hf⟩:=DataW.trod_struct Tryz.underlying26 hm;obtain⟨l⟩:=cs;have L:l.length=4:=(show l.length=_ from F).trans asy
 obtain⟨a0,D,a2,a3,rfl⟩:∃a0 D a2 a3,l=[a0,D,a2,a3]:=by
  clear hm F N hf
  match l,L with
  |[a0,D,a2,a3],_=>exact⟨a0,D,a2,a3,rfl⟩
 obtain⟨p,t,m,l,rfl,rfl,rfl,M⟩:=am1 hm;exact⟨p,t,m,a2,l,rfl,M⟩
end
end
def zm(l:List (List Int)):Option (List Int):=if l.length<=1000000/\l.flatten.length<1000000 then some l.flatten else none
def EI(l:List Int):Option (List Int):=if l.length<1000000 then some l else none
def agO:List UInt8:=[105,110,100,101,120,32,109,97,105,110,10,101,110,116,114,121,32,97,32,49,46,48,46,48,32,48,48,48,48,48,48,48,48,48,48,48,48,48,48,97,97,32,45,10,110,101,101,100,32,98,32,42,10]
def WE:List UInt8:=[101,120,112,108,97,105,110,10,114,111,111,116,32,48,10,110,101,101,100,32,97,32,49,46,48,46,48,32,109,97,105,110,32,48,10,106,111,105,110,32,49,32,50,32,110,97,109,101,32,97,32,49,46,48,46,48,32,109,97,105,110,10]
def ub:List UInt8:=[97,115,107,115]
def uq:List UInt8:=[111,110,101]
def tV:List UInt8:=[119,97,110,116,115]
def tW:List UInt8:=[108,97,99,107,115]
def tX:List UInt8:=[102,110,101,101,100]
def tP:List UInt8:=[102,119,97,110,116,115]
def rM:List UInt8:=[101,120,112,108,97,105,110]
def dL:List UInt8:=[106,111,105,110]
def ph:List UInt8:=[110,97,109,101]
def OC:List UInt8:=[110]
def Nj:List UInt8:=[110,110]
def Nk:List UInt8:=[99,118]
def Nl:List UInt8:=[99,110]
def MN:List UInt8:=[99,110,110]
def Nn:List UInt8:=[99,102]
def MP:List UInt8:=[99,102,110]
def Mu:List UInt8:=[99,102,110,110]
def MO:List UInt8:=[99,110,99]
def ah5:List UInt8:=[101,120,112,108,97,105,110,10,114,111,111,116,32,48,10]
def ah4:List UInt8:=[101,120,112,108,97,105,110,10,114,111,111,116,32,49,10]
def s_a:List UInt8:=[97]
abbrev eZ:=List UInt8
abbrev ee:=List eZ
abbrev yc:=Int×Int×Int
abbrev Cl:=yc×eZ
abbrev H9:=List (eZ×List (List (Int×Cl))×ee)
abbrev U_a:=(eZ×Cl×Int×Int×Bool×H9×H9×List (eZ×H9))×eZ
abbrev lU:=List U_a
abbrev p5:=lU×H9×List (eZ×eZ)
abbrev dh:=List Int
abbrev p4:=List dh
abbrev ju:=(Int×ee×dh)×Int
abbrev O6:=Value×p4×Unit
abbrev U_k:=Bool×p4×ju×Unit
abbrev Ck:=List (Int×ee×dh)
abbrev vw:=Int×Unit
abbrev Cj:=Int×ee×dh×vw
abbrev vx:=Option Bool
abbrev Wi:=Bool×p4×Unit
abbrev ry:=Value×Unit
abbrev U_t:=Option (eZ×ju×Unit⊕ry)
abbrev O5:=Option (Int×ju×Unit⊕ry)
abbrev Wh:=Int×Int×ee×Unit
abbrev U_w:=Lp (dh×Int×Int×vw) (Unit⊕vw)
abbrev Wg:=lU×p5×U_k
abbrev H8:=Option Int
abbrev H7:=Option (dh×ju×Unit⊕ry)
abbrev adL:=Int×eZ×eZ×Int×dh×lU×p5×Cj
def J4(s:eZ):Option (Ck×yc):=J (ab .i64 ((s.length:Int)+1))<|(ED s ((s.length:Int)+1)).bind λD=>some (D.1,D.2)
def Qu:Option ee:=some ([[],pg,ub,uq,kG,tV,tW,tX,tP,jg]:ee)
def qk(o:ju):Option (ju×Unit⊕ry):=(iZ o).bind λD=>bif D.1 then(aZ 1 D.2).bind λ(F,_)=>some (.inr (F,()))else some (.inl (D.2,()))
def rF:Lp (Int×eZ×Int×Int×Int×Cj) (Int×Int×Cj⊕ry):=λ(Z,U,F,ah,D,L,M,N,O,_)=>bif decide (D<ah)then(ag U D).bind λan=>bif decide ((an.toNat:Int)<48)then(aZ 1 ((L,M,N),O)).bind λ(az,_)=>some (.inr (.inr (az,())))else(ag U D).bind λar=>bif decide (57<(ar.toNat:Int))then(aZ 1 ((L,M,N),O)).bind λ(aE,_)=>some (.inr (.inr (aE,())))else J (ab .i64 (10*F))<|(ag U D).bind λY=>J (ab .u8 ((Y.toNat:Int)-48))<|J (ab .i64 ((10*F)+(av4 .i64 ((Y.toNat:Int)-48))))<|J (ab .i64 (D+1))<|some (.inl (Z,U,((10*F)+(av4 .i64 ((Y.toNat:Int)-48))),ah,(D+1),L,M,N,O,()))else some (.inr (.inl (Z,F,L,M,N,O,())))
def I6(L:Int)(o:ju):O5:=let J:Int×Int×Cj⊕ry->O5:=λF=>match F with|.inl (Z,M,N,O,U,Y,_)=>bif decide (Z<M)then(aZ 8 ((N,O,U),Y)).bind λ(a1,_)=>some (.inr (a1,()))else some (.inl (M,((N,O,U),Y),()))|.inr (a6,_)=>some (.inr (a6,()));(dS o).bind λah=>match ah with|.inl (word,D,_)=>bif decide ((word.length:Int)<1)then(aZ 1 D).bind λ(pv,_)=>some (.inr (pv,()))else bif decide (9<(word.length:Int))then(aZ 1 D).bind λ(ar,_)=>some (.inr (ar,()))else bif decide (1<(word.length:Int))then(ag word 0).bind λb=>bif decide ((b.toNat:Int)=48)then(aZ 1 D).bind λ(aE,_)=>some (.inr (aE,()))else(ae rF (L,word,0,(word.length:Int),0,D.1.1,D.1.2.1,D.1.2.2,D.2,())).bind λF=>J F else(ae rF (L,word,0,(word.length:Int),0,D.1.1,D.1.2.1,D.1.2.2,D.2,())).bind λan=>J an|.inr (az,_)=>some (.inr (az,()))
def vS(o:ju):O5:=(I6 1099511627776 o).bind λF=>match F with|.inl (number,D,_)=>some (.inl (number,D,()))|.inr (J,_)=>some (.inr (J,()))
def Kd(s:eZ):Option (eZ×Bool):=(rK s).bind λD=>some (s,D)
def CJ(o:ju):U_t:=(dS o).bind λJ=>match J with|.inl (word,F,_)=>(Kd word).bind λD=>bif !D.2 then(aZ 1 F).bind λ(L,_)=>some (.inr (L,()))else some (.inl (D.1,F,()))|.inr (M,_)=>some (.inr (M,()))
def J5(s:eZ):Option (eZ×Bool):=(o0 s).bind λD=>some (s,D)
def CH(o:ju):U_t:=(dS o).bind λJ=>match J with|.inl (word,F,_)=>(J5 word).bind λD=>bif !D.2 then(aZ 1 F).bind λ(L,_)=>some (.inr (L,()))else some (.inl (D.1,F,()))|.inr (M,_)=>some (.inr (M,()))
def JV(x:U_a)(F:eZ)(D:Cl)(J:eZ):vx:=bif decide (x.1.1=F)then bif (decide (x.1.2.1.1.1=D.1.1)&&(decide (x.1.2.1.1.2.1=D.1.2.1)&&(decide (x.1.2.1.1.2.2=D.1.2.2)&&decide (x.1.2.1.2=D.2))))then some (decide (x.2=J))else some false else some false
def CF:Lp (lU×eZ×Cl×eZ×Int×vw) (Unit⊕vw):=λ(N,F,L,M,O,D,_)=>bif decide (D<O)then(ag N D).bind λY=>(JV Y F L M).bind λU=>bif U then some (.inr (.inr (D,())))else J (ab .i64 (D+1))<|some (.inl (N,F,L,M,O,(D+1),()))else some (.inr (.inl (())))
def PE(s:lU)(f:eZ)(D:Cl)(F:eZ):H8:=(ae CF (s,f,D,F,(s.length:Int),0,())).bind λo=>match o with|.inl (_)=>some (-1)|.inr (J,_)=>some J
def KX(l:lU)(s:eZ)(v:Cl)(source:eZ):H8:=(PE l s v source).bind λD=>some D
def vH(s:eZ)(o:lU)(F:ju):O5:=(yt F).bind λJ=>match J with|.inl (take,O,_)=>((CH O).bind λL=>match L with|.inl (U,Y,_)=>(KX o s take U).bind λD=>some (.inl (D,Y,()))|.inr (M,_)=>some (.inr (M,())))|.inr (N,_)=>some (.inr (N,()))
def C0:U_w:=λ(F,L,M,D,_)=>bif decide (D<M)then(ag F D).bind λN=>bif decide (L=N)then some (.inr (.inr (D,())))else J (ab .i64 (D+1))<|some (.inl (F,L,M,(D+1),()))else some (.inr (.inl (())))
def Qd(s:dh)(v:Int):H8:=(ae C0 (s,v,(s.length:Int),0,())).bind λo=>match o with|.inl (_)=>some (-1)|.inr (D,_)=>some D
def yB(s:dh)(v:Int):vx:=(Qd s v).bind λD=>some (decide (0<=D))
def Dn(x D:Int):vx:=some (decide (x=D))
def Iv:U_w:=λ(L,F,M,D,_)=>bif decide (D<M)then(ag L D).bind λO=>(Dn O F).bind λN=>bif N then some (.inr (.inr (D,())))else J (ab .i64 (D+1))<|some (.inl (L,F,M,(D+1),()))else some (.inr (.inl (())))
def PA(s:dh)(f:Int):H8:=(ae Iv (s,f,(s.length:Int),0,())).bind λo=>match o with|.inl (_)=>some (-1)|.inr (D,_)=>some D
def It:Lp (Int×Int×Int×dh×Unit) (Int×dh×Unit):=λ(L,D,j,F,_)=>bif decide (j<(F.length:Int))then J (0<=j/\j<F.length)<|(F[j.toNat]?).bind λy=>(Dn y L).bind λM=>bif !M then J (0<=D/\D<F.length)<|(F[D.toNat]?).bind λq=>J (ab .i64 (D+1))<|J (ab .i64 (j+1))<|some (.inl (L,(D+1),(j+1),(F.set D.toNat y),()))else J (ab .i64 (j+1))<|some (.inl (L,D,(j+1),F,()))else some (.inr (D,F,()))
def Iy(del:Int)(l:dh):Option dh:=(PA l del).bind λL=>bif decide (L=(-1))then some l else J (ab .i64 (L+1))<|(ae It (del,L,(L+1),l,())).bind λ(D,F,_)=>J (0<=D/\D<=(F.length:Int)/\0<F.length)<|J True<|J (0<=D/\D<=((F.take D.toNat++av5 (F.length-D.toNat) 0).length:Int)/\0<(F.take D.toNat++av5 (F.length-D.toNat) 0).length)<|some ((F.take D.toNat++av5 (F.length-D.toNat) 0).take D.toNat)
def Ec(c:dh)(lit:Int):Option dh:=(EI c).bind λD=>(Iy lit D).bind λF=>some F
def Ki(x:Int)(F:dh):vx:=J (ab .i64 (0-x))<|(yB F (0-x)).bind λD=>some D
def yp:Lp (dh×dh×Int×vw) (Unit⊕vw):=λ(L,F,M,D,_)=>bif decide (D<M)then(ag L D).bind λO=>(Ki O F).bind λN=>bif N then some (.inr (.inr (D,())))else J (ab .i64 (D+1))<|some (.inl (L,F,M,(D+1),()))else some (.inr (.inl (())))
def PG(s f:dh):H8:=(ae yp (s,f,(s.length:Int),0,())).bind λo=>match o with|.inl (_)=>some (-1)|.inr (D,_)=>some D
def PD(s f:dh):vx:=(PG s f).bind λD=>some (decide (0<=D))
def LU(c:dh):vx:=(PD c c).bind λD=>some D
def wa(a b:dh)(v:Int):Option (dh×Int):=bif decide (v<1)then some ([],9)else(yB a v).bind λL=>bif !L then some ([],9)else J (ab .i64 (0-v))<|(yB b (0-v)).bind λM=>bif !M then some ([],9)else(Ec a v).bind λO=>J (ab .i64 (0-v))<|(Ec b (0-v)).bind λU=>(zm ([O,U]:p4)).bind λF=>(Ag F).bind λD=>(LU D).bind λN=>bif N then some ([],9)else some (D,0)
def I0(o:lU)(a1:p5)(l:p4)(a8:ju):H7:=let M:ju->H7:=λL=>(aZ 4 L).bind λ(pv,_)=>some (.inr (pv,()));let ah:dh×Int->ju->H7:=λN L=>bif !decide (N.2=0)then(aZ 9 L).bind λ(ca,_)=>some (.inr (ca,()))else some (.inl (N.1,L,()));let an:Int->Int->Int->ju->H7:=λD F O U=>(qk U).bind λb2=>match b2 with|.inl (L,_)=>bif decide (D<1)then M L else bif decide (F<1)then M L else bif decide ((l.length:Int)<D)then M L else bif decide ((l.length:Int)<F)then M L else bif decide (O=0)then M L else J (ab .i64 (D-1))<|J (0<=(D-1)/\(D-1)<l.length)<|(l[(D-1).toNat]?).bind λy=>J (ab .i64 (F-1))<|J (0<=(F-1)/\(F-1)<l.length)<|(l[(F-1).toNat]?).bind λc3=>(wa y c3 O).bind λN=>bif !decide (N.2=0)then J (ab .i64 (F-1))<|J (0<=(F-1)/\(F-1)<l.length)<|(l[(F-1).toNat]?).bind λc4=>J (ab .i64 (D-1))<|J (0<=(D-1)/\(D-1)<l.length)<|(l[(D-1).toNat]?).bind λc5=>(wa c4 c5 O).bind λch=>ah ch L else ah N L|.inr (cc,_)=>some (.inr (cc,()));(vS a8).bind λbb=>match bb with|.inl (D,az,_)=>((vS az).bind λbp=>match bp with|.inl (F,aE,_)=>((dS aE).bind λbx=>match bx with|.inl (word,Y,_)=>(bif decide (word=ph)then(CJ Y).bind λb0=>match b0 with|.inl (U,cj,_)=>((vH U o cj).bind λb1=>match b1 with|.inl (Z,ar,_)=>J (ab .i64 (Z+1))<|an D F (Z+1) ar|.inr (cd,_)=>some (.inr (cd,())))|.inr (cg,_)=>some (.inr (cg,()))else bif decide (word=gy)then(CJ Y).bind λa6=>match a6 with|.inl (ck,cp,_)=>((CH cp).bind λa7=>match a7 with|.inl (cw,cx,_)=>(tD a1 (ck,cw)).bind λO=>an D F O cx|.inr (b3,_)=>some (.inr (b3,())))|.inr (b4,_)=>some (.inr (b4,()))else(aZ 1 Y).bind λ(b5,_)=>some (.inr (b5,())))|.inr (b6,_)=>some (.inr (b6,())))|.inr (b7,_)=>some (.inr (b7,())))|.inr (b8,_)=>some (.inr (b8,()))
def DD:Option ee:=some ([[],OC,Nj,Nk,Nl,MN,Nn,MP,Mu,MO]:ee)
def jy:Lp adL (Int×dh×p5×Cj⊕ry):=λ(a6,O,ar,az,ah,D,Z,F,L,M,N,_)=>let Y:Int×ju×Unit⊕ry->eZ->Option (adL⊕Int×dh×p5×Cj⊕ry):=λaE an=>match aE with|.inl (a7,U,_)=>J (ah.length+([a7]:dh).length<=1000000000)<|some (.inl (a6,an,ar,(az+1),(ah++([a7]:dh)),D,Z,U.1.1,U.1.2.1,U.1.2.2,U.2,()))|.inr (b0,_)=>some (.inr (.inr (b0,())));bif decide (az<(ar.length:Int))then(ag ar az).bind λb=>J (b.toNat<128)<|bif decide ((b.toNat:Int)=110)then(vS ((F,L,M),N)).bind λa8=>Y a8 O else bif decide ((b.toNat:Int)=99)then(CJ ((F,L,M),N)).bind λbb=>match bb with|.inl (an,b3,_)=>(vH an D b3).bind λaE=>Y aE an|.inr (b1,_)=>some (.inr (.inr (b1,())))else bif decide ((b.toNat:Int)=118)then(vH O D ((F,L,M),N)).bind λbp=>Y bp O else bif decide ((b.toNat:Int)=102)then(CH ((F,L,M),N)).bind λbx=>match bx with|.inl (b4,b5,_)=>(tD Z (O,b4)).bind λa1=>J (ab .i64 (a1-(D.length:Int)))<|J (ab .i64 ((a1-(D.length:Int))-1))<|Y (.inl (((a1-(D.length:Int))-1),b5,())) O|.inr (b2,_)=>some (.inr (.inr (b2,())))else some (.inl (a6,O,ar,(az+1),ah,D,Z,F,L,M,N,()))else some (.inr (.inl (a6,ah,Z,F,L,M,N,())))
def I1(M:Int)(o:lU)(O:p5)(F:ju):H7:=DD.bind λN=>(ag N M).bind λa7=>(ae jy (M,[],a7,0,[],o,O,F.1.1,F.1.2.1,F.1.2.2,F.2,())).bind λU=>match U with|.inl (a8,D,Y,Z,ah,an,ar,_)=>((qk ((Z,ah,an),ar)).bind λaz=>match az with|.inl (end_,_)=>J (D.length+([0,0,0]:dh).length<=1000000000)<|J (0<=(0:Int)/\(0:Int)<(D++([0,0,0]:dh)).length)<|((D++([0,0,0]:dh))[(0:Int).toNat]?).bind λy=>J (0<=(1:Int)/\(1:Int)<(D++([0,0,0]:dh)).length)<|((D++([0,0,0]:dh))[(1:Int).toNat]?).bind λbb=>J (0<=(2:Int)/\(2:Int)<(D++([0,0,0]:dh)).length)<|((D++([0,0,0]:dh))[(2:Int).toNat]?).bind λbp=>J (0<=(3:Int)/\(3:Int)<(D++([0,0,0]:dh)).length)<|((D++([0,0,0]:dh))[(3:Int).toNat]?).bind λbx=>(fP Y (a8,y,bb,bp,bx)).bind λL=>bif !L.2 then(aZ 4 end_).bind λ(aE,_)=>some (.inr (aE,()))else some (.inl (L.1,end_,()))|.inr (a1,_)=>some (.inr (a1,())))|.inr (a6,_)=>some (.inr (a6,()))
def IZ(o:lU)(F:p5)(L:Bool)(l:p4)(ah:ju):Option (Wg⊕O6):=let O:dh×ju×Unit⊕ry->Option (Wg⊕O6):=λM=>match M with|.inl (join,Y,_)=>J (l.length+([join]:p4).length<=1000000000)<|some (.inl (o,F,L,(l++([join]:p4)),Y,()))|.inr (a1,_)=>some (.inr (a1,l,()));(dS ah).bind λan=>match an with|.inl (word,D,_)=>(Qu.bind λZ=>(mL Z word).bind λN=>let U:Option (Wg⊕O6):=bif !L then(aZ 1 D).bind λ(aE,_)=>some (.inr (aE,l,()))else bif decide (word=dL)then(I0 o F l D).bind λM=>O M else bif decide (1<=N)then(I1 N o F D).bind λaz=>O az else(aZ 1 D).bind λ(a6,_)=>some (.inr (a6,l,()));bif !L then bif decide (word=rM)then(qk D).bind λar=>match ar with|.inl (end_,_)=>some (.inl (o,F,true,l,end_,()))|.inr (pv,_)=>some (.inr (pv,l,()))else U else U)|.inr (a7,_)=>some (.inr (a7,l,()))
def tl:Lp (Ck×Int×Int×lU×p5×Wi) (lU×p5×Wi⊕O6):=λ(Y,Z,F,O,U,M,N,_)=>bif decide (F<Z)then(ag Y F).bind λa6=>(IZ O U M N (a6,0)).bind λaE=>match aE with|.inl (line,ah,an,L,ar,_)=>(iZ ar).bind λD=>bif D.1 then J (ab .i64 (D.2.2+1))<|(aZ 1 (D.2.1,(D.2.2+1))).bind λ(pv,_)=>some (.inr (.inr (pv,L,())))else J (ab .i64 (F+1))<|some (.inl (Y,Z,(F+1),line,ah,an,L,()))|.inr (a1,az,_)=>some (.inr (.inr (a1,az,())))else some (.inr (.inl (O,U,M,N,())))
def PN(l:Ck)(o:lU)(F:p5)(Y:Bool)(D:p4):Option (yc×lU×p5×Wi⊕yc×p4×Unit):=(ae tl (l,(l.length:Int),0,o,F,Y,D,())).bind λJ=>match J with|.inl (L,M,N,O,_)=>some (.inl ((0,0,0),L,M,N,O,()))|.inr (Z,U,_)=>(pe Z).bind λq=>some (.inr (q,U,()))
def vX(x:eZ)(U:lU)(x2:H9):Option yc:=let Y:yc->p4->Option yc:=λF D=>bif !((decide (F.1=0)&&(decide (F.2.1=0)&&decide (F.2.2=0))))then some (F.1,F.2.1,0)else bif decide ((D.length:Int)=0)then some (9,0,0)else J (ab .i64 ((D.length:Int)-1))<|J (0<=((D.length:Int)-1)/\((D.length:Int)-1)<D.length)<|(D[((D.length:Int)-1).toNat]?).bind λy=>bif decide (0<(y.length:Int))then some (9,0,0)else some (0,0,0);(J4 x).bind λL=>bif !((decide (L.2.1=0)&&(decide (L.2.2.1=0)&&decide (L.2.2.2=0))))then some (L.2.1,L.2.2.1,0)else(KU U x2).bind λo=>match o with|.inl (new,N,_)=>(bif !decide (N=0)then some (N,0,0)else(PN L.1 U new false []).bind λZ=>match Z with|.inl (F,ah,an,ar,D,_)=>Y F D|.inr (M,az,_)=>bif !((decide (M.1=0)&&(decide (M.2.1=0)&&decide (M.2.2=0))))then some (M.1,M.2.1,0)else none)|.inr (O,_)=>bif !decide (O=0)then some (O,0,0)else none
def Xw(w:ee):Option ee:=let F:Option ee:=bif decide (3<(w.length:Int))then(ag w 0).bind λU=>bif !decide (U=dL)then(ag w 1).bind λD=>J (([D]:ee).length<=1000000000)<|bif decide (5<(w.length:Int))then(ag w 0).bind λY=>bif decide (Y=jg)then(ag w 5).bind λL=>J (([D]:ee).length+([L]:ee).length<=1000000000)<|some (([D]:ee)++([L]:ee))else some ([D]:ee)else some ([D]:ee)else bif decide (5<(w.length:Int))then(ag w 0).bind λZ=>bif decide (Z=jg)then(ag w 5).bind λM=>J (([M]:ee).length<=1000000000)<|some ([M]:ee)else some []else some []else bif decide (5<(w.length:Int))then(ag w 0).bind λah=>bif decide (ah=jg)then(ag w 5).bind λN=>J (([N]:ee).length<=1000000000)<|some ([N]:ee)else some []else some [];bif decide (4<(w.length:Int))then(ag w 0).bind λO=>bif decide (O=dL)then J (0<=(4:Int)/\(4:Int)<=(5:Int)/\(5:Int)<=w.length)<|some ((w.take (5:Int).toNat).drop (4:Int).toNat)else F else F
def aiP:Lp (Ck×Int×Int×ee×Wh) (Ck×Wh):=λ(L,M,N,O,U,D,F,_)=>bif decide (D<U)then(ag O D).bind λY=>(rE F Y).bind λZ=>bif !Z then J (F.length+([Y]:ee).length<=1000000000)<|J (ab .i64 (D+1))<|some (.inl (L,M,N,O,U,(D+1),(F++([Y]:ee)),()))else J (ab .i64 (D+1))<|some (.inl (L,M,N,O,U,(D+1),F,()))else some (.inr (L,M,N,F,()))
def aiO:Lp (Ck×Wh) (ee×Unit):=λ(M,N,D,L,_)=>bif decide (D<N)then(ag M D).bind λah=>(Xw ah.2.1).bind λF=>(ae aiP (M,N,D,F,(F.length:Int),0,L,())).bind λ(Y,Z,O,U,_)=>J (ab .i64 (O+1))<|some (.inl (Y,Z,(O+1),U,()))else some (.inr (L,()))
def Xx(text:eZ):Option ee:=(J4 text).bind λD=>(ae aiO (D.1,(D.1.length:Int),0,[],())).bind λ(F,_)=>some F
def D6:Lp (ee×ee×vw) (Unit⊕Unit):=λ(D,F,i,_)=>bif decide (i<(D.length:Int))then(ag D i).bind λL=>(ag F i).bind λM=>bif !decide (L=M)then some (.inr (.inr (())))else J (ab .i64 (i+1))<|some (.inl (D,F,(i+1),()))else some (.inr (.inl (())))
def wm(a b:ee):vx:=bif !decide ((a.length:Int)=(b.length:Int))then some false else(ae D6 (a,b,0,())).bind λo=>match o with|.inl (_)=>some true|.inr (_)=>some false
def yR:vx:=(yS ((agV,s_t,([agO]:ee)),ahd)).bind λD=>bif !D.2 then some false else(vX WE D.1.1 D.1.2.1).bind λF=>bif (decide (F.1=0)&&(decide (F.2.1=0)&&decide (F.2.2=0)))then(vX ah5 D.1.1 D.1.2.1).bind λJ=>bif (decide (J.1=9)&&(decide (J.2.1=0)&&decide (J.2.2=0)))then(vX ah4 D.1.1 D.1.2.1).bind λL=>bif (decide (L.1=4)&&(decide (L.2.1=2)&&decide (L.2.2=0)))then(Xx WE).bind λM=>(wm M ([s_a]:ee)).bind λN=>some N else some false else some false else some false
section
open Go.Sort
theorem aoh{c:Cx}{h:Hp}{w:World}(l:List Int):au (CR c h w) (l.map (Value.int .i64)) (aQ (.int .i64) l):=by
 induction l with
 |nil=>exact .nil
 |cons x l D=>exact .cons ⟨rfl,rfl⟩ D
theorem aoI(l:List Int)(O:l.length<1000000):fw at1 131 [.c (.v (.sl (.int .i64)) l)] [] (.ret (.c (.ow 1 0 .all)) [(1,.row [] 3 (.int .i64) l)]):=by
 intro c w vals hC N;obtain⟨v0,rfl,_,a,cap,rfl,F⟩:=tU N
 have fin:∀v' w',w'.ownsRow w.heap.size 3 1 v' l.length (l.map (Value.int .i64))->Below w.heap.size w w'->∃c',pW (cS w c (aj [])) (.returned v') c' w' (.ret (.c (.ow 1 0 .all)) [(1,.row [] 3 (.int .i64) l)]):=λv' w' L J=>by
  obtain⟨c',g1,g2⟩:=hC.TK J (k:=1) rfl rfl (e:=3) (t:=.int .i64) (by decide) (l:=l) L (aoh l)
  have e:bK (aj []) 1 (some (aR.row [] 3 (.int .i64) l))=aj [(1,.row [] 3 (.int .i64) l)]:=(ij [] 1 _).symm;rw[e]at g1 g2;exact⟨c',v',rfl,g1,g2⟩
 by_cases h0:l=[]
 ·subst h0;cases a with
  |none=>refine(Tryz.slices_Clone_int_nil 0 cap w).mono ?_;rintro e w' ⟨rfl,rfl⟩;exact fin _ _ ⟨rfl,.inl ⟨rfl,rfl⟩⟩ (Below.refl _ _)
  |some ad=>refine(Tryz.slices_Clone_int_zero ad cap w).mono ?_;rintro e w' ⟨v',rfl,h1,_,h2⟩;exact fin _ _ h1 h2
 ·obtain⟨hle,_,b,off,rfl,M⟩:=F.resolve_left h0;refine(Tryz.slices_Clone_int b off l.length cap l w (at9 _) (by omega) (λj D=>?_)).mono ?_
  ·have:=(M j l[j] (au4 D)).2;rw[show off+(j*wid (.int .i64)+0)=off+j by simp [wid]]at this
   rw[this];simp [aC3,D]
  ·rintro e w' ⟨v',rfl,g1,_,g2⟩;rw[ax6]at g1;exact fin _ _ g1 g2
noncomputable def akE:cM at1:=mkB 131 ⟨[(0,.c (.v (.sl (.int .i64))))],[]⟩ [(false,⟨[(2,.c (.own 1))],[(1,.row 3 (.int .i64))]⟩)] (λr=>(r,())) (λx=>EI x.1) (by kernel_rfl) (λx o h0=>by
 obtain⟨l,u⟩:=x;have h:EI l=some o:=h0;unfold EI at h;split at h
 ·rename_i D;obtain rfl:l=o:=Option.some.inj h;exact aoI l D
 ·cases h)
theorem an6(cap:Nat)(w:World):Calls at1 58 #[.slice none 0 cap] w λe w'=>e=.returned (.slice none 0 0)/\w=w':=by
 go_enter Tryz.func58,Tryz.ntmps58
 go_wp2_with fail
 refine(Tryz.slices_Clone_int_nil 0 cap _).mono ?_;rintro e w1 ⟨rfl,rfl⟩
 go_wp2_with fail
 refine(AnyF.slices_SortFunc_none {Tryz.TE with} none 0 _ _).mono ?_
 rintro e w1 ⟨rfl,rfl⟩
 go_wp2_with fail
 refine(Tryz.slices_Compact_int_empty none 0 _).mono ?_;rintro e w1 ⟨rfl,rfl⟩
 go_wp2_with fail
 refine(aba _).mono ?_;rintro e w1 ⟨rfl,rfl⟩
 go_wp2_with fail
 go_ret
 exact⟨rfl,rfl⟩
theorem apA(l:List Int)(F:l.length<=1000000):fw at1 58 [.c (.v (.sl (.int .i64)) l)] [] (.ret (.c (.v (.sl (.int .i64)) (ir l))) []):=by
 intro c w vals hC Y;obtain⟨v0,rfl,_,a,cap,rfl,N⟩:=tU Y
 have fin:∀w' g D,lR w' w.heap.size g D (ir l)->Below w.heap.size w w'->∃c',pW (cS w c (aj [])) (.returned (.slice (some ⟨g,0,none⟩) (ir l).length (ir l).length)) c' w' (.ret (.c (.v (.sl (.int .i64)) (ir l))) []):=λw' g D hO O=>by
  obtain⟨g1,g2⟩:=hC.A9 (gv.qv O) (λb i=>c.A b i\/b=g) (λb i h=>.inl h) (λb i h=>h.elim .inl (λh=>.inr (by rw[h];exact⟨hO.bg,hO.lt⟩)))
  refine⟨_,_,rfl,g1,rfl,_,_,rfl,.inr ⟨at9 _,aw8 hO.qX hO.mx,g,0,rfl,λi x M=>⟨.inr rfl,?_⟩⟩⟩;have J:=(ay9.1 M).1;have:=(hO.holds i (by simpa using J)).1
  rw[show 0+(i*wid (.int .i64)+0)=0+i by simp [wid],this]
  simp [J,(ay9.1 M).2]
 by_cases h0:l=[]
 ·subst h0;cases a with
  |none=>
   refine(an6 cap w).mono ?_;rintro e w' ⟨rfl,rfl⟩;have e:ir []=[]:=Ex (l:=[]) (λx h=>by cases h)
   exact⟨c,_,rfl,hC,rfl,none,0,by rw[e];rfl,.inl e⟩
  |some ad=>refine(Rg ad cap [] w (YS ad cap w) F).mono ?_;rintro e w' ⟨g,D,rfl,h1,h2⟩;exact fin w' g D h1 h2
 ·obtain⟨hle,_,b,off,rfl,U⟩:=N.resolve_left h0;refine(Rg ⟨b,off,none⟩ cap l w (Yk b off cap l w F (λj L=>?_)) F).mono ?_
  ·have:=(U j l[j] (au4 L)).2;rw[show off+(j*wid (.int .i64)+0)=off+j by simp [wid]]at this
   rw[this];simp [aC3,L]
  ·rintro e w' ⟨g,D,rfl,h1,h2⟩;exact fin w' g D h1 h2
noncomputable def amX:cM at1:=mkB 58 ⟨[(0,.c (.v (.sl (.int .i64))))],[]⟩ [(false,⟨[(2,.c (.v (.sl (.int .i64))))],[]⟩)] (λr=>(r,())) (λx=>Ag x.1) (by kernel_rfl) (λx o h0=>by
 obtain⟨l,u⟩:=x;have h:Ag l=some o:=h0;unfold Ag at h;split at h
 ·rename_i D;obtain rfl:bz l=o:=Option.some.inj h;rw[au0,decide_eq_true_eq]at D;have hk:∀x∈l,-1000000<=x/\x<=1000000:=λx F=>by have:=ax0.1 D.1 x F;rw[au0,decide_eq_true_eq,decide_eq_true_eq]at this;exact this
  have:=apA l D.2;rw[Ex hk]at this;exact this
 ·cases h)
end
end
end Go.Proofs.YtejhifnjgoclpaaGreatDoor.Fx
namespace Go.Proofs
open Go.Shelf
def Tryz.ZA:Go.Shelf.Ren:=⟨λ|4=>397|n=>n,λ|0=>0|3=>3|4=>4|9=>9|20=>20|22=>55|25=>3|n=>n,λ|n=>n⟩
theorem Tryz.ac7:Go.Proofs.Lays8.n4 at1 Tryz.ZA:={
 mixed:=by kernel_rfl
 f4:=⟨Tryz.f397.name,by decide,Tryz.func397.trans (congrArg some (by kernel_rfl))⟩
 t0:=Tryz.underlying0
 a0:=Tryz.isAgg0
 z0:=Tryz.sizeOf0
 v0:=Tryz.zeroValue0
 t3:=Tryz.underlying3
 a3:=Tryz.isAgg3
 z3:=Tryz.sizeOf3
 v3:=Tryz.zeroValue3
 t4:=Tryz.underlying4
 a4:=Tryz.isAgg4
 z4:=Tryz.sizeOf4
 v4:=Tryz.zeroValue4
 t9:=Tryz.underlying9
 a9:=Tryz.isAgg9
 z9:=Tryz.sizeOf9
 v9:=Tryz.zeroValue9
 t20:=Tryz.underlying20
 a20:=Tryz.isAgg20
 z20:=Tryz.sizeOf20
 v20:=Tryz.zeroValue20
 t22:=Tryz.underlying55
 a22:=Tryz.isAgg55
 z22:=Tryz.sizeOf55
 v22:=Tryz.zeroValue55}
end Go.Proofs
namespace Go.Proofs.YtejhifnjgoclpaaGreatDoor.Fx
open Go.RowKit
set_option maxRecDepth 100000
theorem arl{P:Program}{t:TypeId}{z:Value}{a b:Nat}(h:(P.info? t).map (λi=>(i.zero,i.size,i.bytes))=some (some z,a,b)):∃i,P.info? t=some i/\i.zero=some z/\i.size=a/\i.bytes=b:=by
 cases D:P.info? t with
 |none=>rw[D]at h;cases h
 |some i=>rw[D]at h;simp at h;exact⟨i,rfl,h.1,h.2.1,h.2.2⟩
theorem ash:(at1.info? 3).map (λi=>(i.zero,i.size,i.bytes))=some (some (.int .i64 0),1,8):=by kernel_rfl
theorem arq(n:Int)(h0:0<=n)(Z:n<=1000000):fw at1 397 [.c .nil,.c (.v (.int .i64) n)] [] (.ret (.c (.ow 1 0 .all)) [(1,.row [] 3 (.int .i64) [])]):=by
 intro c w vals hC D;obtain⟨k,rfl⟩:∃k:Nat,n=(k:Int):=⟨n.toNat,by omega⟩
 cases D with
 |cons F D=>cases D with
  |cons J D=>
   cases D;have F:_=Value.slice none 0 0:=F;have J:Value.int .i64 (k:Int)=_:=J.2;subst F;subst J
   have fin:∀v' w',w'.ownsRow w.heap.size 3 1 v' 0 []->Below w.heap.size w w'->∃c',pW (cS w c (aj [])) (.returned v') c' w' (.ret (.c (.ow 1 0 .all)) [(1,.row [] 3 (.int .i64) [])]):=λv' w' N L=>by
    obtain⟨c',g1,g2⟩:=hC.TK L (k:=1) rfl rfl (e:=3) (t:=.int .i64) (by decide) (l:=[]) N .nil
    have e:bK (aj []) 1 (some (aR.row [] 3 (.int .i64) []))=aj [(1,.row [] 3 (.int .i64) [])]:=(ij [] 1 _).symm;rw[e]at g1 g2;exact⟨c',v',rfl,g1,g2⟩
   by_cases hk:k=0
   ·subst hk;refine(Any8.slices_Grow_room Tryz.ac7 none 0 0 0 w (at9 _) (by omega) (by omega) (by omega)).mono ?_
    rintro e w' ⟨rfl,rfl⟩;exact fin _ _ ⟨rfl,.inl ⟨rfl,rfl⟩⟩ (Below.refl _ _)
   ·obtain⟨i0,M,O,U,Y⟩:=arl ash;refine(Any8.slices_Grow_grow Tryz.ac7 i0 (.int .i64 0) M O (by rw[U];decide) none 0 0 k [] w (at9 _) (by omega) (by rw[Y];omega) (by omega) (by simp) (λ_=>rfl) (λa h=>by cases h)).mono ?_
    rintro e w' ⟨rfl,rfl⟩;refine fin _ _ ⟨by simp,.inr ⟨w.heap.size,_,_,rfl,at9 _,heap_alloc_new w.drew _,au2 _,?_,?_,by simp⟩⟩ ?_
    ·exact grownCap_le_maxLen w _ _ _ (by unfold maxLen;omega)
    ·have:=grownCap_ge w (0+k) 0 (Tryz.ZA.t 25);rw[ax2]at this;simp [Builtin.zeroCells,Value.cells];omega
    ·exact(show Below w.heap.size w w.drew from⟨rfl,rfl,rfl,at9 _,λ_ _=>rfl⟩).trans (show Below w.heap.size w.drew (w.drew.alloc _) from(Below.refl w.drew.heap.size w.drew).alloc (at9 _) _)
def Fw(n:Int):Option (List Int):=if 0<=n/\n<=1000000 then some []else none
noncomputable def amJ:cM at1:=mkB 397 ⟨[(0,.c .nil),(1,.c (.v (.int .i64)))],[]⟩ [(false,⟨[(4,.c (.own 1))],[(1,.row 3 (.int .i64))]⟩)] (λr=>(r,())) (λx=>Fw x.1) (by kernel_rfl) (λx o h0=>by
 obtain⟨n,u⟩:=x;have h:Fw n=some o:=h0;unfold Fw at h;split at h
 ·rename_i D;obtain rfl:[]=o:=Option.some.inj h;exact arq n D.1 D.2
 ·cases h)
end Go.Proofs.YtejhifnjgoclpaaGreatDoor.Fx
namespace Go.Proofs.YtejhifnjgoclpaaGreatDoor.Fx
open Go.RowKit
set_option maxRecDepth 100000
noncomputable section
def ahJ:List UInt8:=[108,101,110,32,111,117,116,32,111,102,32,114,97,110,103,101]
def CW:List (List Int)×Int×List (List Int)×Int×Int×Unit->Option ((List (List Int)×Int×List (List Int)×Int×Int×Unit)⊕((List (List Int)×Int×Unit)⊕(Value×Unit))):=λ(M,D,O,N,F,_)=>
 bif decide (F<N)then
  (ag O F).bind λL=>
  J (ab .i64 (D+(L.length:Int)))<|
  bif decide ((D+(L.length:Int))<0)then
   some (.inr (.inr ((.iface 9 (.string ⟨ahJ.toArray⟩)),())))
  else
   J (ab .i64 (F+1))<|
   some (.inl (M,(D+(L.length:Int)),O,N,(F+1),()))
 else
  some (.inr (.inl (M,D,())))
def CV:List (List Int)×Int×Int×List Int×Unit->Option ((List (List Int)×Int×Int×List Int×Unit)⊕((List Int×Unit))):=λ(L,M,D,F,_)=>
 bif decide (D<M)then
  (ag L D).bind λN=>
  J (F.length+N.length<=1000000000)<|
  J (ab .i64 (D+1))<|
  some (.inl (L,M,(D+1),(F++N),()))
 else
  some (.inr (F,()))
def Jn(D:List (List Int)):Option ((List Int×Unit)⊕(Value×Unit)):=
 (ae CW (D,0,D,(D.length:Int),0,())).bind λo=>
 match o with
 |.inl (F,N,_)=>
  (Fw N).bind λJ=>
  (ae CV (F,(F.length:Int),0,J,())).bind λ(M,_)=>
  some (.inl (M,()))
 |.inr (L,_)=>some (.inr (L,()))
def WQ:cM at1:=mkF [amJ] [(29,{cut:=[(.normal,⟨[(0,.c (.v (.sl (.sl (.int .i64))))),(3,.c (.v (.int .i64)))],[]⟩),(.dx,⟨[],[]⟩)]}),
 (30,{ow:=[24],ps:=[(24,[(1,24)])]}),
 (58,{loop:=some ⟨[(0,.c (.v (.sl (.sl (.int .i64))))),(3,.c (.v (.int .i64))),(9,.c (.v (.sl (.sl (.int .i64))))),(10,.c (.v (.int .i64))),(11,.c (.v (.int .i64)))],[]⟩}),
 (125,{cut:=[(.normal,⟨[(6,.c (.own 24))],[(24,.row 3 (.int .i64))]⟩)]}),
 (127,{pre:=[.aY 24]}),
 (250,{loop:=some ⟨[(6,.c (.own 24)),(25,.c (.v (.sl (.sl (.int .i64))))),(26,.c (.v (.int .i64))),(27,.c (.v (.int .i64)))],[(24,.row 3 (.int .i64))]⟩})] 337 ⟨[(0,.c (.v (.sl (.sl (.int .i64)))))],[]⟩ [(false,⟨[(2,.c (.v (.sl (.int .i64))))],[]⟩),(true,⟨[],[]⟩)] (id) (id) (λ_=>rfl) (λx=>Jn x.1) (by kernel_rfl) (λx=>by kernel_rfl)
end
theorem aqi(l:List (List Int))(M:l.length<=1000000)(hf:l.flatten.length<1000000):∀m i,l.length-i=m->i<=l.length->ae CW (l,(((l.take i).flatten.length:Nat):Int),l,(l.length:Int),(i:Int),())=some (.inl (l,((l.flatten.length:Nat):Int),())):=by
 intro m
 induction m with
 |zero=>
  intro i hm F;obtain rfl:i=l.length:=by omega
  rw[ax6];exact bf (by simp only[CW,av8,decide_false,cond_false])
 |succ m L=>
  intro i hm F;have h:i<l.length:=by omega
  have e:(l.take (i+1)).flatten.length=(l.take i).flatten.length+l[i].length:=by rw[az5 h,aH7,au5];simp
  have hle:(l.take (i+1)).flatten.length<=l.flatten.length:=by
   conv=>rhs;rw[<-ax4 (i+1) l]
   rw[aH7,au5];omega
  have D:(((l.take i).flatten.length:Nat):Int)+(l[i].length:Int)=(((l.take (i+1)).flatten.length:Nat):Int):=by omega
  have hk:∀{R:Type} (q:Option R),J (ab .i64 (((l.take (i+1)).flatten.length:Nat):Int)) q=q:=λq=>aC (n:=(l.take (i+1)).flatten.length) (by omega)
  rw[bd (v':=(l,(((l.take (i+1)).flatten.length:Nat):Int),l,(l.length:Int),((i+1:Nat):Int),())) (by simp only[CW,dY (show((i:Nat):Int)<(l.length:Int) by omega),cond_true,cond_false,aI h,D,hk,dN (show¬(((l.take (i+1)).flatten.length:Nat):Int)<0 by omega),aS,aC (show i+1<=4611686018427387904 by omega)])]
  exact L (i+1) (by omega) h
theorem aqh(l:List (List Int))(L:l.length<=1000000)(hf:l.flatten.length<1000000):∀m i,l.length-i=m->i<=l.length->ae CV (l,(l.length:Int),(i:Int),(l.take i).flatten,())=some (l.flatten,()):=by
 intro m
 induction m with
 |zero=>
  intro i hm D;obtain rfl:i=l.length:=by omega
  rw[ax6];exact bf (by simp only[CV,av8,decide_false,cond_false])
 |succ m F=>
  intro i hm D;have h:i<l.length:=by omega
  have e:(l.take i).flatten++l[i]=(l.take (i+1)).flatten:=by rw[az5 h,aH7];simp
  have hle:(l.take (i+1)).flatten.length<=l.flatten.length:=by
   conv=>rhs;rw[<-ax4 (i+1) l]
   rw[aH7,au5];omega
  have hk:∀{R:Type} (q:Option R),J ((l.take i).flatten.length+l[i].length<=1000000000) q=q:=λq=>ai (by rw[<-au5,e];omega)
  rw[bd (v':=(l,(l.length:Int),((i+1:Nat):Int),(l.take (i+1)).flatten,())) (by simp only[CV,dY (show((i:Nat):Int)<(l.length:Int) by omega),cond_true,aI h,hk,e,aS,aC (show i+1<=4611686018427387904 by omega)])]
  exact F (i+1) (by omega) h
theorem aoC(l:List (List Int))(D:l.length<=1000000)(hf:l.flatten.length<1000000):Jn l=some (.inl (l.flatten,())):=by have h1:=aqi l D hf l.length 0 rfl (au2 _);have h2:=aqh l D hf l.length 0 rfl (au2 _);have h1:ae CW (l,0,l,(l.length:Int),0,())=_:=h1;have h2:ae CV (l,(l.length:Int),0,[],())=_:=h2;unfold Jn Fw;rw[h1];simp only[at0];rw[if_pos ⟨by omega,by omega⟩,at0,h2];rfl
noncomputable def ajT:cM at1:=mkB 337 ⟨[(0,.c (.v (.sl (.sl (.int .i64)))))],[]⟩ [(false,⟨[(2,.c (.v (.sl (.int .i64))))],[]⟩)] (λr=>(r,())) (λx=>zm x.1) (by kernel_rfl) (λx o h0=>by
 obtain⟨l,u⟩:=x;have h:zm l=some o:=h0;unfold zm at h;split at h
 ·rename_i D;obtain rfl:l.flatten=o:=Option.some.inj h;have L:WQ.F _ (l,()) some=some (.inl (l.flatten,())):=by show(Jn l).bind _=_;rw[aoC l D.1 D.2];rfl
  obtain⟨o,h1,h2⟩:=WQ.ok _ _ _ _ L;have J:=Option.some.inj h1;subst J;exact h2
 ·cases h)
end Go.Proofs.YtejhifnjgoclpaaGreatDoor.Fx
namespace Go.Proofs.YtejhifnjgoclpaaGreatDoor.Fx
open Go.RowKit
set_option maxRecDepth 1000000
noncomputable section
theorem Kg(l:List Int)(v:Int)(D:l.length<=1000000):yB l v=some (l.any λx=>decide (x=v)):=by
 have h:=jc (f:=C0) l (λx=>decide (x=v)) (λk=>(l,v,l.length,k,())) (λk=>Sum.inr (k,())) (Sum.inl ()) (λk h hp=>by
  have hp:¬v=l[k]:=λe=>of_decide_eq_false hp e.symm;simp (disch:=omega) only[K0,C0]) (λk h hp=>by
  have hp:=(of_decide_eq_true hp).symm;simp (disch:=omega) only[K0,C0]) (by
  simp[C0])
 simp_all[yB,Qd];rw[<-pb l (λx=>decide (x=v)) inferInstance];unfold bC;cases l.findIdx? (λx=>decide (x=v))<;>rfl
theorem Yq(l:List Int)(v:Int)(U:l.length<1000000):Ec l v=some (l.filter λx=> !decide (x=v)):=by
 have key:Iy v l=some (l.filter λx=> !decide (x=v)):=by
  unfold Iy PA
  have H:=abO (f:=Iv) l (λx=>decide (x=v)) (λj=>(l,v,l.length,j,())) (λj F=>by
   have D:∀{R:Type} (q:Option R),J (ab .i64 (j+1)) q=q:=λq=>aC (n:=j+1) (by omega)
   simp (disch:=omega) only[K0,Iv,Dn];rcases az9 (decide (l[j]=v))with e|e
   ·rw[e];rfl
   ·rw[e];rfl) (by simp[Iv])
  rcases H with⟨e,h⟩|⟨k,hk,e,h1,h2⟩
  ·rw[e,h];rfl
  ·rw[e];simp only[dN (show¬((k:Int)= -1) by omega)]
   refine ab1 (f:=It) l (by omega) (λx=>decide (x=v)) (λi j o=>(v,i,j,o,())) (λi j o O F L M=>?_) (λi o L=>?_) k hk h1 h2
   ·have c1:∀{R:Type} (q:Option R),J (0<=j/\j<o.length) q=q:=λq=>ai ⟨by omega,by omega⟩
    have c2:∀{R:Type} (q:Option R),J (0<=i/\i<o.length) q=q:=λq=>ai ⟨by omega,by omega⟩
    have N:∀{R:Type} (q:Option R),J (ab .i64 (i+1)) q=q:=λq=>aC (n:=i+1) (by omega)
    have D:∀{R:Type} (q:Option R),J (ab .i64 (j+1)) q=q:=λq=>aC (n:=j+1) (by omega)
    have g1:=au4 (by omega)
    simp (disch:=omega) only[K0,It,Dn,M];rcases az9 (decide (l[j]=v))with e|e
    ·rw[e];rfl
    ·rw[e];rfl
   ·simp (disch:=omega) only[K0,It]
 simp_all[Ec,EI]
def fe(c:List Int):Prop:=c.length<=2001/\∀x∈c,-1000<=x/\x<=1000
def oe(c:List Int):Bool:=c.any λx=>c.any λy=>decide (y=0-x)
theorem aqN(c:List Int)(hc:fe c):LU c=some (oe c):=by
 have F:=hc.1
 have h:=jc (f:=yp) c (λx=>c.any λy=>decide (y=0-x)) (λk=>(c,c,c.length,k,())) (λk=>Sum.inr (k,())) (Sum.inl ()) (λk h hp=>by
  have D:=hc.2 _ (at2 h);simp (disch:=omega) only[K0,yp,Ki,Kg c (0-c[k]) (by omega),hp]) (λk h hp=>by
  have D:=hc.2 _ (at2 h);simp (disch:=omega) only[K0,yp,Ki,Kg c (0-c[k]) (by omega),hp]) (by
  simp[yp])
 unfold LU PD PG;rw[show ae yp (c,c,c.length,0,())=_ from h]
 unfold oe;rw[<-pb c (λx=>c.any λy=>decide (y=0-x)) inferInstance];unfold bC;cases c.findIdx? (λx=>c.any λy=>decide (y=0-x))<;>rfl
theorem Rk{l:List Int}(h:∀x∈l,-1000<=x/\x<=1000):fe (bz l):=by
 obtain⟨h1,h2⟩:=qm l;refine⟨?_,λx D=>h x ((h2 x).1 D)⟩;have:=Eh (m:=(List.range 2001).map λ(i:Nat)=>(i:Int)-1000) h1.nodup λx D=>by have:=h x ((h2 x).1 D);exact ax1.2 ⟨(x+1000).toNat,List.mem_range.2 (by omega),by omega⟩
 grind
def fW(a b:List Int)(v:Int):Option (List Int):=if v<1\/a.any (λx=>decide (x=v))=false\/b.any (λx=>decide (x=0-v))=false\/oe (bz ((a.filter λx=> !decide (x=v))++(b.filter λx=> !decide (x=0-v))))=true then none
 else some (bz ((a.filter λx=> !decide (x=v))++(b.filter λx=> !decide (x=0-v))))
theorem Yx(a b:List Int)(L:fe a)(M:fe b)(v:Int)(hv:v<=1000):wa a b v=some ((fW a b v).getD [],if(fW a b v).isSome=true then 0 else 9)/\∀r,fW a b v=some r->1<=v/\r=bz ((a.filter λx=> !decide (x=v))++(b.filter λx=> !decide (x=0-v)))/\fe r:=by
 have no:∀{q:Option (List Int×Int)},fW a b v=none->q=some ([],9)->q=some ((fW a b v).getD [],if(fW a b v).isSome=true then 0 else 9)/\∀r,fW a b v=some r->1<=v/\r=bz ((a.filter λx=> !decide (x=v))++(b.filter λx=> !decide (x=0-v)))/\fe r:=λ{q} h e=>by rw[h];grind
 have h1:=L.1;have h2:=M.1;unfold wa;by_cases c1:v<1
 ·rw[dY c1];exact no (if_pos (.inl c1)) rfl
 ·simp (disch:=omega) only[K0,Kg a v (by omega)]
  cases O:a.any (λx=>decide (x=v))with
  |false=>exact no (if_pos (.inr (.inl O))) rfl
  |true=>
   have N:∀{R:Type} (q:Option R),J (ab .i64 (0-v)) q=q:=λq=>ai (ba (by omega))
   simp only[N,Kg b (0-v) (by omega)]
   cases U:b.any (λx=>decide (x=0-v))with
   |false=>exact no (if_pos (.inr (.inr (.inl U)))) rfl
   |true=>
    have f1:=aG3 (λx=> !decide (x=v)) a;have f2:=aG3 (λx=> !decide (x=0-v)) b;have D:∀x∈(a.filter λx=> !decide (x=v))++(b.filter λx=> !decide (x=0-v)),-1000<=x/\x<=1000:=λx F=>(av3.1 F).elim (λh=>L.2 x (aC5.1 h).1) (λh=>M.2 x (aC5.1 h).1);have hn:Ag ((a.filter λx=> !decide (x=v))++(b.filter λx=> !decide (x=0-v)))=some (bz ((a.filter λx=> !decide (x=v))++(b.filter λx=> !decide (x=0-v)))):=by unfold Ag;rw[abJ (λx F=>by have:=D x F;omega),dY (by grind)];rfl
    have Z:zm [a.filter λx=> !decide (x=v),b.filter λx=> !decide (x=0-v)]=some ((a.filter λx=> !decide (x=v))++(b.filter λx=> !decide (x=0-v))):=by unfold zm;rw[aE9,aE9,List.flatten_nil,aw5,if_pos ⟨(by simp),by rw[au5];omega⟩]
    have ht:=aqN _ (Rk D);simp only[K0,Yq a v (by omega),Yq b (0-v) (by omega),Z,hn,ht]
    cases Y:oe (bz ((a.filter λx=> !decide (x=v))++(b.filter λx=> !decide (x=0-v))))with
    |true=>exact no (if_pos (.inr (.inr (.inr Y)))) rfl
    |false=>
     have e:fW a b v=some (bz ((a.filter λx=> !decide (x=v))++(b.filter λx=> !decide (x=0-v)))):=if_neg (by grind)
     rw[e];exact⟨rfl,λr h=>by cases h;exact⟨by omega,rfl,Rk D⟩⟩
variable {A:List aq} {R:List av} {c:List Int}
variable {A:List aq} {R:List av}
theorem anF(hA:A.length<=360)(hT:(aA A R).length<=400)(l:cu)(U:l∈iT A R (aA A R)):∀x∈l.2,-1000<=x/\x<=1000:=by
 have lN:∀{m:List Int},(∀x∈m,-1000<=x/\x<=1000)->∀x∈bz m,-1000<=x/\x<=1000:=λ{m} h x D=>h x (((qm m).2 x).1 D);have N:∀{m q:List Int},(∀x∈m,-1000<=x/\x<=1000)->(∀x∈q,-1000<=x/\x<=1000)->∀x∈m++q,-1000<=x/\x<=1000:=λh1 h2 x D=>(av3.1 D).elim (h1 x) (h2 x);have Y:∀i:Nat,i<=900->∀x∈[neg i],-1000<=x/\x<=1000:=λi h x D=>by rw[aw0.1 D];unfold neg;omega
 have J:∀i j:Nat,i<=900->j<=900->∀x∈[neg i,neg j],-1000<=x/\x<=1000:=λi j h g x D=>(aw2.1 D).elim (λe=>by rw[e];unfold neg;omega) (Y j g x)
 have O:∀Z an F ns,(∀x∈F,-1000<=x/\x<=1000)->l∈mj A (aA A R) Z an F ns->∀x∈l.2,-1000<=x/\x<=1000:=by
  intro Z an F ns L hq;obtain⟨i,hi,q⟩:=Ey hq;rcases q with rfl|⟨k,hk,rfl⟩
  ·exact lN (N L λx D=>by have:=Y8 D;omega)
  ·refine lN (N L λx D=>?_);have hr:=tJ A.length (aA A R) ((ns[i]).1,(ns[i]).2.2[k]);rw[aw0.1 D];omega
 unfold iT at U;rcases av3.1 U with q|q
 ·grind
 ·obtain⟨i,hi,q⟩:=dK.1 q;unfold nj at q;rcases av3.1 q with q|q
  ·rcases av3.1 q with q|q
   ·rcases av3.1 q with q|q
    ·obtain⟨k,hk,q⟩:=dK.1 q;rw[ay3]at hk;split at q
     ·rw[aw0.1 q];exact lN (J _ _ (by omega) (by omega))
     ·cases q
    ·exact O _ _ _ _ (Y i (by omega)) q
   ·obtain⟨t,ht,q⟩:=dK.1 q;have M:=J i (A.length+t) (by omega) (by omega)
    unfold sy at q;split at q
    ·cases hf:iN (A[i]).1 ((aA A R)[t]).2 with
     |none=>rw[hf]at q;rw[aw0.1 q];exact M
     |some fd=>rw[hf]at q;exact O _ _ _ _ M q
    ·cases q
  ·obtain⟨k,hk,q⟩:=dK.1 q;obtain⟨j,hj,q⟩:=dK.1 q;obtain⟨z,hz,e,_⟩:=wN.1 (at2 hj);rw[aw0.1 q,e];exact lN (J i z (by omega) (by omega))
def uz(b:UInt8):Prop:=b=110\/b=99\/b=118\/b=102
variable {A:List aq} {R:List av}
abbrev Ur:=Option ((List Int×(aD×Int)×Unit)⊕(Value×Unit))
variable {A:List aq} {R:List av}
def Ug(number D var:Int)(l:List (List Int))(take:aD×Int):Ur:=
 (qk take).bind λO=>
 match O with
 |.inl (end_,_)=>
  bif decide (number<1)then(aZ 4 end_).bind λ(F,_)=>some (.inr (F,()))
  else
   bif decide (D<1)then(aZ 4 end_).bind λ(F,_)=>some (.inr (F,()))
   else
    bif decide ((l.length:Int)<number)then(aZ 4 end_).bind λ(F,_)=>some (.inr (F,()))
    else
     bif decide ((l.length:Int)<D)then(aZ 4 end_).bind λ(F,_)=>some (.inr (F,()))
     else
      bif decide (var=0)then(aZ 4 end_).bind λ(F,_)=>some (.inr (F,()))
      else
       J (ab .i64 (number-1))<|
       J (0<=(number-1)/\(number-1)<l.length)<|
       (l[(number-1).toNat]?).bind λY=>
       J (ab .i64 (D-1))<|
       J (0<=(D-1)/\(D-1)<l.length)<|
       (l[(D-1).toNat]?).bind λZ=>
       (wa Y Z var).bind λM=>
       bif !decide (M.2=0)then
        J (ab .i64 (D-1))<|
        J (0<=(D-1)/\(D-1)<l.length)<|
        (l[(D-1).toNat]?).bind λah=>
        J (ab .i64 (number-1))<|
        J (0<=(number-1)/\(number-1)<l.length)<|
        (l[(number-1).toNat]?).bind λan=>
        (wa ah an var).bind λN=>
        bif !decide (N.2=0)then(aZ 9 end_).bind λ(L,_)=>some (.inr (L,()))
        else some (.inl (N.1,end_,()))
       else
        bif !decide (M.2=0)then(aZ 9 end_).bind λ(L,_)=>some (.inr (L,()))
        else some (.inl (M.1,end_,()))
 |.inr (U,_)=>some (.inr (U,()))
variable {A:List aq} {R:List av}
theorem ajf:yR=some true:=by kernel_rfl
end
end Go.Proofs.YtejhifnjgoclpaaGreatDoor.Fx
