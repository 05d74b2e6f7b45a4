/- Parts of the proofs, put together by a program. -/
import Derived.Test.YtejhifnjgoclpaaGreatDoorK1
set_option linter.unusedVariables false
set_option linter.unusedSimpArgs false
open Bool renaming and_eq_true->au0,not_eq_true'->ay6,or_eq_true->az0
open List renaming mem_append->av3,mem_cons_self->aw4,all_eq_true->ax0,mem_cons_of_mem->ax5,mem_append_left->aF6
open Array renaming getElem?_eq_some_iff->aE5
namespace Go.Proofs.YtejhifnjgoclpaaGreatDoor.Fx
open Go.RowKit
set_option maxRecDepth 1000000
noncomputable section
inductive KS where
 |i (l:List Nat)
 |o (l:List Nat)
def KS.has:KS->Nat->Bool
 |.i l,k=>dq l k
 |.o l,k=> !dq l k
def KS.kZ:KS->KS->Bool
 |.i l,s=>l.all λk=> !s.has k
 |.o l,.i q=>q.all λk=>dq l k
 |.o _,.o _=>false
theorem KS.asr{s t:KS}(h:s.kZ t=true){k:Nat}(h1:s.has k=true)(h2:t.has k=true):False:=by
 unfold KS.kZ at h;split at h
 ·have:=ax0.1 h k (nU.1 h1);grind
 ·have:=ax0.1 h k (nU.1 h2);have h1:(!dq _ k)=true:=h1;grind
 ·grind
structure Ky where
 wr:Bool
 dx:Bool
 S:KS
 R:List Nat
def Ky.p:Ky:=⟨false,false,.i [],[]⟩
def Ky.q(R:List Nat):Ky:=⟨false,false,.i R,[]⟩
def Ky.u(W:List Nat)(b:Bool):Ky:=⟨true,b,.i W,[]⟩
def Ky.n(d:Nat):Ky:=⟨true,false,.i [d],[]⟩
def Ky.w:Ky:=⟨true,false,.o [],[]⟩
def Ky.r(W R:List Nat)(b:Bool):Ky:=⟨true,b,.i (W++R),R⟩
def Ky.ro(κ:Ky)(k:Nat):Bool:= !κ.wr||dq κ.R k
def CK(κ ι:Ky):Prop:= ∀k,κ.S.has k=true->ι.S.has k=true->κ.ro k=true/\ι.ro k=true
def Na(κ ι:Ky)(k:Nat):Bool:= !κ.S.has k|| !ι.S.has k||(κ.ro k&&ι.ro k)
def kRd(κ ι:Ky):Bool:=match κ.S with
 |.i l=>l.all (Na κ ι)
 |.o _=>match ι.S with|.i l=>l.all (Na κ ι) |.o _=>false
def HI(κ ι:Ky):Bool:=(!κ.wr&& !ι.wr)||κ.S.kZ ι.S||kRd κ ι
abbrev SF:=Nat->DS
def iW:DS->DS
 |.c (.kb b)=>.c (.v .bool b)
 |x=>x
theorem SR.iW{c:Cx}{h:Hp}{w:World}{u:Value}{x:DS}:SR c h w u (iW x)<->SR c h w u x:=by
 unfold Fx.iW;split
 ·exact⟨λh=>(show Value.bool _=u from h.2).symm,λh=>⟨rfl,(show u=_ from h).symm⟩⟩
 ·rfl
theorem ZM{c:Cx}{h:Hp}{w:World}{v:Value}{x:DS}(D:T0 v=some x):SR c h w v x:=by
 unfold T0 at D;split at D<;>split at D<;>try (cases D;done)
 ·rename_i cs _ l F;cases D;exact⟨cs.toList,rfl,As F⟩
 ·rename_i F;cases D;exact acW F
def gY(κ:Ky)(o:Oper)(σ:SF)(h:Hp)(σ0:cG)(H H':ax):Prop:=
 (∀t,.tmp t∈o.op.operands->iW (bM σ0 t)=σ t)/\Sub H h/\(∀k,aj H k=none->aj H' k≠none->h k=none)/\(∀k,κ.S.has k=false->aj H k=none/\aj H' k=none)/\(∀k,κ.ro k=true->aj H' k=aj H k)
def qI(ops:Array Oper)(σ:SF)(o:Oper):Option Bool:=
 match o.guard with
 |none=>some true
 |some (j,want)=>match(ops[j]?).bind (·.dst)with
  |none=>some false
  |some d=>match σ d with
   |.c (.v .bool b)=>some (b==want)
   |.eR []=>some false
   |_=>none
def TT{α:Type}(n:Nat)(k:Nat->α):α:=match n with|0=>k 0|m+1=>k (m+1)
theorem ZD{α:Type}(n:Nat)(k:Nat->α):TT n k=k n:=by cases n<;>rfl
def dW(M i:Nat):Nat:=(M>>>(256*i))%2^256
def Uc(M s:Nat)(e:Edge):Nat:=if Region.binds .any e then s|||2^e.on|||dW M e.on else s
def pq:List Oper->Nat->Nat->Nat
 |[],_,M=>M
 |o::t,i,M=>TT (M|||((o.after.toList.foldl (Uc M) 0 %2^256)<<<(256*i))) λD=>pq t (i+1) D
def pK(M i x:Nat):Bool:=decide (x<256)&&M.testBit (256*i+x)
section
variable {P:Program} {ops:Array Oper} {ms:Nat} {κ ι:Ky} {o ox oi:Oper} {σ σ':SF} {h h':Hp} {σ0:cG} {H H':ax}
theorem gY.move(hf:gY κ o σ h σ0 H H')(h1:∀t,.tmp t∈o.op.operands->σ' t=σ t)(h2:∀k,κ.S.has k=true->h' k=h k):gY κ o σ' h' σ0 H H':=by
 obtain⟨g1,g2,g3,g4,g5⟩:=hf
 have hk:∀k,(aj H k≠none\/aj H' k≠none)->h' k=h k:=λk e=>h2 k (by
  cases q:κ.S.has k with
  |true=>rfl
  |false=>obtain⟨J,L⟩:=g4 k q;rcases e with e|e;exact(e J).elim;exact(e L).elim)
 exact⟨λt F=>(g1 t F).trans (h1 t F).symm,λk o e=>(hk k (.inl (by grind))).trans (g2 k o e),λk e D=>(hk k (.inr D)).trans (g3 k e D),g4,g5⟩
theorem gY.still(hf:gY κ o σ h σ0 H H')(hu:κ.wr=false):bu h (aj H')=h:=by
 funext k;unfold bu;rw[hf.2.2.2.2 k (by unfold Ky.ro;rw[hu];rfl)]
 cases e:aj H k with
 |none=>rfl
 |some o=>rw[hf.2.1 k o e];rfl
theorem abg{k:Nat}(h:Na κ ι k=true)(h1:κ.S.has k=true)(h2:ι.S.has k=true):κ.ro k=true/\ι.ro k=true:=by grind[Na]
theorem abL(hk:HI κ ι=true):CK κ ι:=by
 intro k h1 h2;unfold HI at hk;rw[az0,az0,au0]at hk;rcases hk with(⟨a,b⟩|hk)|hk
 ·unfold Ky.ro;grind
 ·exact(KS.asr hk h1 h2).elim
 ·unfold kRd at hk;split at hk
  ·rename_i l e;rw[e]at h1;exact abg (ax0.1 hk k (nU.1 h1)) (e▸h1) h2
  ·split at hk
   ·rename_i l e;rw[e]at h2;exact abg (ax0.1 hk k (nU.1 h2)) h1 (e▸h2)
   ·grind
theorem aaF(hk:CK κ ι):CK ι κ:=λk a b=>(hk k b a).symm
theorem gY.NB(hf:gY κ o σ h σ0 H H')(hk:CK κ ι):∀k,ι.S.has k=true->bu h (aj H') k=h k:=λk D=>by
 cases q:κ.S.has k with
 |true=>
  unfold bu;rw[hf.2.2.2.2 k (hk k q D).1];cases e:aj H k with
  |none=>rfl
  |some o=>rw[hf.2.1 k o e];rfl
 |false=>unfold bu;rw[(hf.2.2.2.1 k q).2];rfl
def Stl(κ:Ky)(h:Hp)(H':ax):Prop:=κ.wr=false\/∀k,aj H' k≠none->k<1000/\h k=none
def UI(ms i:Nat)(x:Option Nat)(b:Bool):Prop:=match x with|some p=>pK ms i p=b|none=>b=false
def S1(P:Program)(ops:Array Oper)(ms:Nat)(x:Option Nat)(X:Nat×Ky)(σ:SF)(h:Hp)(σ':SF)(h':Hp):Prop:=
 (UI ms X.1 x true/\σ'=σ/\h'=h)\/(UI ms X.1 x false/\∃o,ops[X.1]? =some o/\((qI ops σ o=some true/\∃σ0 H v H',gY X.2 o σ h σ0 H H'/\St P o σ0 H v H'/\(x≠none->Stl X.2 h H')/\σ'=iA σ o.dst (iW v)/\h'=bu h (aj H'))\/(qI ops σ o=some false/\σ'=iA σ o.dst (.eR [])/\h'=h)))
def Pn(P:Program)(ops:Array Oper)(X:Nat×Ky)(σ:SF)(h:Hp)(D:Value)(h':Hp):Prop:=
 X.2.dx=true/\∃o,ops[X.1]? =some o/\qI ops σ o=some true/\∃σ0 H H',gY X.2 o σ h σ0 H H'/\Ie P o σ0 H D H'/\h'=bu h (aj H')
def jm(P:Program)(ops:Array Oper)(ms:Nat):Option Nat->List (Nat×Ky)->SF->Hp->(SF->Hp->Prop)->(Value->Hp->Prop)->Prop
 |_,[],σ,h,K,_=>K σ h
 |x,X::r,σ,h,K,KP=>(∃σ' h',S1 P ops ms x X σ h σ' h'/\jm P ops ms x r σ' h' K KP)\/(x=none/\∃D h',Pn P ops X σ h D h'/\KP D h'/\jm P ops ms (some X.1) r σ h (λ_ _=>True) λ_ _=>False)
def Nd(KP:Value->Hp->Prop):Prop:= ∀v h h',KP v h->(∀k o,h k=some o->h' k=some o)->(∀k,h k=none->h' k≠none->k<1000)->KP v h'
theorem wK{d:Option Nat}{v:DS}{t:Nat}(h:d≠some t):iA σ d v t=σ t:=by
 cases d with
 |none=>rfl
 |some d=>exact gP λe=>h (by rw[e])
theorem KZ{d e:Option Nat}{v u:DS}(h:∀t,d=some t->e≠some t):iA (iA σ d v) e u=iA (iA σ e u) d v:=by
 funext t;by_cases h1:e=some t
 ·subst h1;rw[wK (d:=d) λq=>h t q rfl];show bK _ t u t=bK _ t u t;rw[fh,fh]
 ·rw[wK h1];cases d with
  |none=>rw[show iA (iA σ e u) none v=iA σ e u from rfl,wK h1];rfl
  |some d=>
   show bK σ d v t=bK _ d v t;by_cases h2:t=d
   ·grind[fh]
   ·rw[gP h2,gP h2,wK h1]
theorem wM{d:Option Tmp}{v:DS}(h:∀x,d=some x->x∉o.looksAt ops):∀t,.tmp t∈o.op.operands->iA σ d v t=σ t:=λt D=>wK λe=>h t e (aF6 _ (List.mem_filterMap.2 ⟨.tmp t,Array.mem_toList_iff.2 D,rfl⟩))
theorem tO{d:Option Tmp}{v:DS}(h:∀x,d=some x->x∉o.looksAt ops):qI ops (iA σ d v) o=qI ops σ o:=by
 unfold qI;split
 ·rfl
 ·rename_i j want J;cases F:(ops[j]?).bind (·.dst)with
  |none=>rfl
  |some e=>simp[wK (σ:=σ) (d:=d) (v:=v) (t:=e) λD=>h e D (List.mem_append_right _ (by grind))]
theorem apt{H1 D:ax}(F:∀k,aj H1 k≠none->aj D k≠none->aj H1 k=aj D k):bu (bu h (aj H1)) (aj D)=bu (bu h (aj D)) (aj H1):=by
 funext k;have:=F k;unfold bu;cases J:aj H1 k<;>cases L:aj D k<;>try rfl
 grind
theorem gY.OE{τ:SF}{τ0:cG}{G D:ax}(hf:gY κ ox σ h σ0 H H')(L:gY ι oi τ h τ0 G D)(hk:CK κ ι):bu (bu h (aj H')) (aj D)=bu (bu h (aj D)) (aj H'):=apt λk F J=>by
 have O:κ.S.has k=true:=by
  cases q:κ.S.has k with
  |true=>rfl
  |false=>exact(F (hf.2.2.2.1 k q).2).elim
 have a2:ι.S.has k=true:=by
  cases q:ι.S.has k with
  |true=>rfl
  |false=>exact(J (L.2.2.2.1 k q).2).elim
 obtain⟨U,Y⟩:=hk k O a2;rw[hf.2.2.2.2 k U]at F⊢;rw[L.2.2.2.2 k Y]at J⊢;obtain⟨Z,M⟩:=Option.ne_none_iff_exists'.1 F;obtain⟨o2,N⟩:=Option.ne_none_iff_exists'.1 J;rw[M,N,<-hf.2.1 k Z M,<-L.2.1 k o2 N]
variable {x:Option Nat} {X I:Nat×Ky} {σ1 σ2:SF} {h1 h2:Hp}
theorem S1.swap(N:ops[X.1]? =some ox)(M:ops[I.1]? =some oi)(ha:ox.apart ops oi=true)(hk:HI X.2 I.2=true)(g1:S1 P ops ms x X σ h σ1 h1)(g2:S1 P ops ms x I σ1 h1 σ2 h2):∃σm hm,S1 P ops ms x I σ h σm hm/\S1 P ops ms x X σm hm σ2 h2:=by
 obtain⟨Y,a2,a3⟩:=Oper.apart_spec ha;have ah:=abL hk;have an:=aaF ah;rcases g1 with⟨D,rfl,rfl⟩|⟨D,o1,Z,g1⟩
 ·rcases g2 with⟨F,rfl,rfl⟩|g2
  ·exact⟨_,_,.inl ⟨F,rfl,rfl⟩,.inl ⟨D,rfl,rfl⟩⟩
  ·exact⟨_,_,.inr g2,.inl ⟨D,rfl,rfl⟩⟩
 ·rcases g2 with⟨F,rfl,rfl⟩|⟨F,o2,e2,g2⟩
  ·exact⟨_,_,.inl ⟨F,rfl,rfl⟩,.inr ⟨D,o1,Z,g1⟩⟩
  rw[N]at Z;cases Z;rw[M]at e2;cases e2;rcases g1 with⟨O,τ,H,v,H',f1,s1,t1,rfl,rfl⟩|⟨O,rfl,rfl⟩<;>rcases g2 with⟨L,τ2,G,u,U,f2,s2,t2,rfl,rfl⟩|⟨L,rfl,rfl⟩<;>rw[tO Y]at L
  ·have f3:=f2.move (λt J=>(wM Y t J).symm) λk q=>(f1.NB ah k q).symm;have f4:gY X.2 ox (iA σ oi.dst (iW u)) (bu h (aj U)) τ H H':=f1.move (λt J=>wM a3 t J) (f3.NB an);refine⟨_,_,.inr ⟨F,oi,M,.inl ⟨L,τ2,G,u,U,f3,s2,λq=>?_,rfl,rfl⟩⟩,.inr ⟨D,ox,N,.inl ⟨by rw[tO a3];exact O,τ,H,v,H',f4,s1,λq=>?_,KZ a2,f1.OE f3 ah⟩⟩⟩
   ·rcases t2 q with t|t
    ·exact .inl t
    ·refine .inr λk e=>⟨(t k e).1,?_⟩;have:=(t k e).2;unfold bu at this;cases e2:aj H' k with
     |none=>grind
     |some o=>grind
   ·rcases t1 q with t|t
    ·exact .inl t
    ·refine .inr λk e=>⟨(t k e).1,?_⟩
     rw[f3.NB (ι:=X.2) an k (by
      cases q:X.2.S.has k with
      |true=>rfl
      |false=>exact(e (f1.2.2.2.1 k q).2).elim)]
     grind
  ·exact⟨_,_,.inr ⟨F,oi,M,.inr ⟨L,rfl,rfl⟩⟩,.inr ⟨D,ox,N,.inl ⟨by rw[tO a3];exact O,τ,H,v,H',f1.move (λt J=>wM a3 t J) λ_ _=>rfl,s1,t1,KZ a2,rfl⟩⟩⟩
  ·exact⟨_,_,.inr ⟨F,oi,M,.inl ⟨L,τ2,G,u,U,f2.move (λt J=>(wM Y t J).symm) λ_ _=>rfl,s2,t2,rfl,rfl⟩⟩,.inr ⟨D,ox,N,.inr ⟨by rw[tO a3];exact O,KZ a2,rfl⟩⟩⟩
  ·exact⟨_,_,.inr ⟨F,oi,M,.inr ⟨L,rfl,rfl⟩⟩,.inr ⟨D,ox,N,.inr ⟨by rw[tO a3];exact O,KZ a2,rfl⟩⟩⟩
theorem jm.swap{K:SF->Hp->Prop}{KP:Value->Hp->Prop}{R:List (Nat×Ky)}(ar:Nd KP)(N:ops[X.1]? =some ox)(M:ops[I.1]? =some oi)(ha:ox.apart ops oi=true)(hk:HI X.2 I.2=true)(hp:I.2.dx=true->X.2.wr=false)(az:pK ms X.1 I.1=false)(aE:pK ms I.1 X.1=false)
  (F:jm P ops ms x (X::I::R) σ h K KP):jm P ops ms x (I::X::R) σ h K KP:=by
 obtain⟨a1,a2,a3⟩:=Oper.apart_spec ha;have ah:=abL hk;have a6:=aaF ah;rcases F with⟨σ1,h1,g1,⟨σ2,h2,g2,F⟩|⟨rfl,pv,h2,⟨p1,o2,e2,U,τ2,G,D,f2,s2,rfl⟩,an,F⟩⟩|⟨rfl,pv,h1,⟨p1,o1,e1,O,Y,H,H',f1,s1,rfl⟩,an,F⟩
 ·obtain⟨σm,hm,q1,q2⟩:=g1.swap N M ha hk g2;exact .inl ⟨σm,hm,q1,.inl ⟨σ2,h2,q2,F⟩⟩
 ·rw[M]at e2;cases e2;have hu:=hp p1;rcases g1 with⟨Z,_⟩|⟨Z,o1,e1,g1⟩
  ·cases Z
  rw[N]at e1;cases e1
  have key:h1=h/\∃v,σ1=iA σ ox.dst v:=by
   rcases g1 with⟨O,Y,H,v,H',f1,s1,t1,rfl,rfl⟩|⟨O,rfl,rfl⟩
   ·exact⟨f1.still hu,_,rfl⟩
   ·exact⟨rfl,_,rfl⟩
  obtain⟨rfl,v,rfl⟩:=key;rw[tO a1]at U;refine .inr ⟨rfl,pv,_,⟨p1,oi,M,U,τ2,G,D,f2.move (λt ht=>(wM a1 t ht).symm) λ_ _=>rfl,s2,rfl⟩,an,.inl ⟨_,_,.inr ⟨az,ox,N,?_⟩,F⟩⟩;rcases g1 with⟨O,Y,H,v',H',f1,s1,t1,q⟩|g1
  ·exact .inl ⟨O,Y,H,v',H',f1,s1,λ_=>.inl hu,q⟩
  ·exact .inr g1
 ·rw[N] at e1;cases e1;rcases F with⟨σ1,h1,g1,F⟩|⟨e,_⟩
  ·rcases g1 with⟨Z,_⟩|⟨Z,o2,e2,g2⟩
   ·rw[show pK ms I.1 X.1=true from Z]at aE;grind
   rw[M]at e2;cases e2;rcases g2 with⟨U,τ2,G,u,D,f2,s2,t2,rfl,rfl⟩|⟨U,rfl,rfl⟩
   ·have f4:gY X.2 ox (iA σ oi.dst (iW u)) (bu h (aj D)) Y H H':=f1.move (λt ht=>wM a3 t ht) (f2.NB a6);refine .inl ⟨_,_,.inr ⟨rfl,oi,M,.inl ⟨U,τ2,G,u,D,f2,s2,λq=>(q rfl).elim,rfl,rfl⟩⟩,.inr ⟨rfl,pv,_,⟨p1,ox,N,by rw[tO a3];exact O,Y,H,H',f4,s1,rfl⟩,?_,F⟩⟩
    rw[<-f1.OE f2 ah];refine ar _ _ _ an (λk o e=>?_) λk e e'=>?_
    ·show(aj D k).or (bu h (aj H') k)=some o;cases L:aj D k with
     |none=>grind
     |some og=>
      rcases t2 (λq=>nomatch q)with t|t
      ·have J:bu h (aj D) k=h k:=by rw[f2.still t]
       unfold bu at J;rw[L]at J;have a7:aj H' k=none\/aj H' k≠none:=by cases aj H' k<;>simp
       rcases a7 with q|q
       ·unfold bu at e;rw[q]at e;exact J.trans e
       ·have:=f1.OE f2 ah;have:=congrFun this k;unfold bu at this e;obtain⟨oh,q⟩:=Option.ne_none_iff_exists'.1 q;rw[L,q]at this;rw[q]at e;exact this.trans e
      ·have h3:=(t k (by grind)).2
       unfold bu at e;cases eh:aj H' k with
       |none=>rw[eh,h3]at e;cases e
       |some oh=>have:=congrFun (f1.OE f2 ah) k;unfold bu at this;rw[L,eh]at this;rw[eh]at e;exact this.trans e
    ·have e':(aj D k).or (bu h (aj H') k)≠none:=e';rw[e]at e';have L:aj D k≠none:=λq=>by rw[q]at e';exact e' rfl
     rcases t2 (λq=>nomatch q)with t|t
     ·have J:bu h (aj D) k=h k:=by rw[f2.still t]
      unfold bu at J e;rw[Option.or_eq_none_iff]at e;rw[e.2,Option.or_eq_none_iff]at J;exact(L J.1).elim
     ·exact(t k L).1
   ·exact .inl ⟨_,_,.inr ⟨rfl,oi,M,.inr ⟨U,rfl,rfl⟩⟩,.inr ⟨rfl,pv,_,⟨p1,ox,N,by rw[tO a3];exact O,Y,H,H',f1.move (λt ht=>wM a3 t ht) λ_ _=>rfl,s1,rfl⟩,an,F⟩⟩
  ·cases e
end
def sg(ops:Array Oper)(ms:Nat)(x i:Nat×Ky):Bool:=
 match ops[x.1]?,ops[i.1]? with
 |some ox,some oi=>x.1 !=i.1&& !(ox.after.any λe=>Region.binds .any e&&e.on==i.1)&&((ox.apart ops oi&&HI x.2 i.2&&(!i.2.dx|| !x.2.wr)&& !pK ms x.1 i.1)||pK ms i.1 x.1)
 |_,_=>false
def r8(ops:Array Oper)(ms:Nat):List (Nat×Ky)->Bool
 |[]=>true
 |x::t=>t.all (sg ops ms x)&&r8 ops ms t
def Mt(ops:Array Oper)(x:Nat×Ky):Bool:=
 match ops[x.1]? with
 |some o=>o.after.all (λe=> !Region.binds .any e||(e.on !=x.1&&e.on<ops.size))
 |none=>false
def calm(ops:Array Oper)(M:Nat)(order:List (Nat×Ky)):Bool:=
 r8 ops M order&&(List.range ops.size).all (λi=>order.any (·.1==i))&&order.all (Mt ops)
def FR(n:Nat)(ops:Array Oper):Bool:=ops.toList.all λo=>match o.dst with|some d=>decide (d<n)|none=>true
section
variable {P:Program} {ops:Array Oper} {ms:Nat} {Q:Exit->Act->World->Prop}
theorem jm.front{I:Nat×Ky}:∀(L D:List (Nat×Ky)) (x:Option Nat) (σ:SF) (h:Hp) (K:SF->Hp->Prop) (KP:Value->Hp->Prop),Nd KP->(∀y∈L,sg ops ms y I=true)->(∀y∈L,pK ms I.1 y.1=false)->jm P ops ms x (L++I::D) σ h K KP->jm P ops ms x (I::(L++D)) σ h K KP
 |[],D,x,σ,h,K,KP,_,_,_,F=>F
 |X::t,D,x,σ,h,K,KP,N,hp,hm,F=>by
  have Y:=λy M=>hp y (ax5 _ M);have O:=λy M=>hm y (ax5 _ M)
  have h2:jm P ops ms x (X::I::(t++D)) σ h K KP:=by
   rcases F with⟨σ1,h1,g1,F⟩|⟨e,pv,h1,g1,g2,F⟩
   ·exact .inl ⟨σ1,h1,g1,jm.front t D _ _ _ _ _ N Y O F⟩
   ·exact .inr ⟨e,pv,h1,g1,g2,jm.front t D _ _ _ _ _ (λ_ _ _ q=>q.elim) Y O F⟩
  have J:=hp X aw4;have U:=hm X aw4;unfold sg at J;split at J
  ·rename_i ox oi Z e2;rw[U]at J;simp[ay6]at J;obtain⟨_,⟨⟨q1,q2⟩,q3⟩,q4⟩:=J;exact h2.swap N Z e2 q1 q2 (λe=>by rw[e]at q3;grind) q4 U
  ·grind
def acU(ops:Array Oper)(L:Nat->Prop):Prop:= ∀j,L j->∀o,ops[j]? =some o->∀e∈o.after,Region.binds .any e=true->L e.on
theorem apa(M i k:Nat)(h:k<256):(dW M i).testBit k=M.testBit (256*i+k):=by unfold dW;rw[Nat.testBit_mod_two_pow,Nat.testBit_shiftRight,decide_eq_true h,Bool.true_and]
theorem aot(L:Nat->Prop)(M:Nat)(N:∀x,L x->∀k,k<256->M.testBit (256*x+k)=true->L k):∀(l:List Edge) (s:Nat),(∀e∈l,Region.binds .any e=true->L e.on)->(∀k,k<256->s.testBit k=true->L k)->
  ∀k,k<256->(l.foldl (Uc M) s).testBit k=true->L k:=by
 intro l
 induction l with
 |nil=>grind
 |cons e t J=>
  intro s he hs k h1 hk;rw[List.foldl_cons]at hk;refine J _ (λF h' D=>he F (ax5 _ h') D) ?_ k h1 hk;intro k h1 hk;unfold Uc at hk;split at hk
  ·rename_i D;have O:=he e aw4 D;rw[Nat.testBit_or,Nat.testBit_or,az0,az0]at hk;rcases hk with(hk|hk)|hk
   ·grind
   ·grind
   ·rw[apa _ _ _ h1]at hk;grind
  ·exact hs k h1 hk
theorem amy{L:Nat->Prop}(O:acU ops L):∀(l:List Oper) (i M:Nat),(∀j,l[j]? =ops[i+j]?)->
  (∀j,(∀o,ops[j]? =some o->∀e∈o.after,Region.binds .any e=true->L e.on)->∀k,k<256->M.testBit (256*j+k)=true->L k)->
  ∀j,(∀o,ops[j]? =some o->∀e∈o.after,Region.binds .any e=true->L e.on)->∀k,k<256->(pq l i M).testBit (256*j+k)=true->L k:=by
 intro l
 induction l with
 |nil=>intro i M _ h;exact h
 |cons o t ih=>
  intro i M J U;unfold pq;rw[ZD];have h0:ops[i]? =some o:=by have:=J 0;grind
  refine ih _ _ (λj=>?_) (λj Y k h1 hk=>?_)
  ·have:=J (j+1);grind
  ·rw[Nat.testBit_or,az0]at hk;rcases hk with hk|hk
   ·grind
   ·rw[Nat.testBit_shiftLeft,au0,Nat.testBit_mod_two_pow,au0]at hk;obtain⟨h2,N,F⟩:=hk;have ah:=of_decide_eq_true h2;have an:=of_decide_eq_true N;have e:j=i:=by omega
    subst e;rw[show 256*j+k-256*j=k by omega]at F
    exact aot L M (λx hx k h1 hk=>U x (λo Z e he D=>O x hx o Z e he D) k h1 hk) _ 0 (λe he D=>Y o h0 e (Array.mem_toList_iff.1 he) D) (λk _ hk=>by simp at hk) k h1 F
theorem apm{a:Act}{d:Option Tmp}{v:Value}{n:Nat}(F:a.tmps.size=n)(D:∀x,d=some x->x<n)(t:Nat):(a.put d v).tmps.getD t undef=if d=some t then v else a.tmps.getD t undef:=by
 cases d with
 |none=>rfl
 |some d=>
  simp[Act.put];have:=D d rfl;by_cases h:d=t
  ·grind
  ·grind
theorem L8{c:Cx}{h:Hp}{w:World}{a:Act}{σ:SF}{d:Option Tmp}{val:Value}{v:DS}{n:Nat}(F:a.tmps.size=n)(D:∀x,d=some x->x<n)(hs:∀t,SR c h w (a.tmps.getD t undef) (σ t))(J:SR c h w val v):∀t,SR c h w ((a.put d val).tmps.getD t undef) (iA σ d v t):=by
 intro t;rw[apm F D];by_cases e:d=some t
 ·subst e;rw[if_pos rfl];show SR c h w val (bK σ t v t);rw[fh];omega
 ·rw[wK e];grind
theorem LH(a:Act)(d:Option Tmp)(v:Value):(a.put d v).tmps.size=a.tmps.size:=by cases d<;>simp [Act.put]
theorem put_defers(a:Act)(d:Option Tmp)(v:Value):(a.put d v).defers=a.defers:=by cases d<;>rfl
theorem Ll{n:Nat}(h:FR n ops=true){i:Nat}{o:Oper}(D:ops[i]? =some o):∀x,o.dst=some x->x<n:=by
 intro x F;have:=ax0.1 h o (by grind)
 grind
theorem R0{c:Cx}{h:Hp}{w:World}{a:Act}{σ:SF}{o:Oper}{b:Bool}(hs:∀t,SR c h w (a.tmps.getD t undef) (σ t))(hw:qI ops σ o=some b):Region.wanted o (yielded ops a.tmps)=b:=by
 unfold qI at hw;unfold Region.wanted;split at hw
 ·grind
 ·rename_i j want M;rw[M];simp only;unfold yielded;split at hw
  ·grind
  ·rename_i d L;rw[L];simp[Option.bind_some];have D:=hs d;rw[Array.getD_eq_getD_getElem?]at D;split at hw
   ·rename_i N J;rw[J]at D;injection hw with hw;have e:=D.2;cases F:a.tmps[d]? with
    |none=>rw[F]at e;cases e
    |some u=>rw[F]at e;have e:=e;subst e;simp_all
   ·rename_i J;rw[J]at D;injection hw with hw;obtain⟨vs,e,h2⟩:=D;cases h2;cases F:a.tmps[d]? with
    |none=>grind
    |some u=>rw[F]at e;have e:=e;subst e;simp only;rw[<-hw];rfl
   ·cases hw
theorem aaQ{κ:Ky}{o:Oper}{σ:SF}{h:Hp}{σ0:cG}{H H':ax}(hf:gY κ o σ h σ0 H H'){c:Cx}{w:World}{a:Act}(hs:∀t,SR c h w (a.tmps.getD t undef) (σ t)):∀x∈o.op.operands,∀d,bq σ0 x=some d->SR c h w (a.eval x) d:=by
 intro x F d D;cases x with
 |tmp t=>cases D;have:=hs t;rw[<-hf.1 t F]at this;exact SR.iW.1 this
 |const v=>exact ZM D
 |global g=>cases D
 |func f=>cases D;exact⟨[],[],rfl,.nil,.nil⟩
theorem anj{n:Nat}{E:cP}{κ:Ky}{o:Oper}{σ:SF}{h:Hp}{σ0:cG}{H H':ax}{v:DS}{a:Act}{w:World}(M:∀x,o.dst=some x->x<n)(O:Told n E σ h a w)(hf:gY κ o σ h σ0 H H')(hs:St P o σ0 H v H'){N:Act->World->Prop}(L:∀D w',Told n E (iA σ o.dst (iW v)) (bu h (aj H')) D w'->N D w'):o.wp P a w N Q:=by obtain⟨⟨c,h1,h2⟩,F,J⟩:=O;exact hs E c h w a N Q h1 hf.2.1 hf.2.2.1 (aaQ hf h2) λval w' c' g1 g2 g3=>L _ _ ⟨⟨c',g1,L8 F M (λt=>(h2 t).fM g2) (SR.iW.2 g3)⟩,by rw[LH];exact F,by rw[put_defers];exact J⟩
theorem Y3{n:Nat}{E:cP}{σ:SF}{h:Hp}{a:Act}{w:World}{d:Option Tmp}(J:∀x,d=some x->x<n)(L:Told n E σ h a w):Told n E (iA σ d (.eR [])) h (a.put d undef) w:=by obtain⟨⟨c,h1,h2⟩,D,F⟩:=L;exact⟨⟨c,h1,L8 D J h2 ⟨[],rfl,.nil⟩⟩,by rw[LH];exact D,by rw[put_defers];exact F⟩
theorem aaO{D:Array Bool}{j:Nat}(h:j<D.size):D.getD j false=D.getD j true:=by grind
structure B6(ops:Array Oper)(listed:Array Bool)(R:List (Nat×Ky)):Prop where
 sz:listed.size=ops.size
 un:∀j,j<ops.size->(listed.getD j true=false<->∃k,(j,k)∈R)
 su:r8 ops (pq ops.toList 0 0) R=true
 self:∀x∈R,Mt ops x=true
 closed:acU ops (λj=>listed.getD j false=true)
theorem X6:∀(F D:List (Nat×Ky)) (x:Nat×Ky),r8 ops ms (F++x::D)=true->(∀y∈F,sg ops ms y x=true)/\(∀y∈D,sg ops ms x y=true)/\r8 ops ms (F++D)=true:=by
 intro F
 induction F with
 |nil=>intro D x h;simp only[List.nil_append,r8,au0,ax0]at h;grind
 |cons z t L=>
  intro D x h;simp only[List.cons_append,r8,au0,ax0]at h;obtain⟨h1,h2⟩:=h;obtain⟨i1,i2,i3⟩:=L D x h2;refine⟨λy J=>?_,i2,?_⟩
  ·grind
  ·simp only[List.cons_append,r8,au0,ax0];refine⟨λy J=>h1 y ?_,i3⟩;rcases av3.1 J with J|J
   ·grind
   ·grind
theorem Zj{x y:Nat×Ky}(h:sg ops ms x y=true):x.1≠y.1:=by grind[sg]
theorem alk{x y:Nat×Ky}(h:sg ops ms x y=true){o:Oper}(D:ops[x.1]? =some o):∀e∈o.after,Region.binds .any e=true->e.on≠y.1:=by
 intro e he F hc;unfold sg at h;rw[D]at h;split at h
 ·rename_i ox oi h1 h2;cases h1;simp only[au0,ay6]at h;have:=h.1.2;rw[Array.any_eq_false']at this;grind
 ·grind
theorem Za{x:Nat×Ky}(h:Mt ops x=true):∃o,ops[x.1]? =some o/\∀e∈o.after,Region.binds .any e=true->e.on≠x.1/\e.on<ops.size:=by
 unfold Mt at h;split at h
 ·rename_i o D;refine⟨o,D,λe he F=>?_⟩;have:=Array.all_eq_true_iff_forall_mem.1 h e he;grind
 ·grind
theorem B6.head{F:Array Bool}{x:Nat×Ky}{R:List (Nat×Ky)}(h:B6 ops F (x::R)):x.1∈Region.ready .any ops F:=by
 obtain⟨o,D,hs⟩:=Za (h.self x aw4);have hp:=h.su;simp only[r8,au0,ax0]at hp;have M:x.1<ops.size:=(aE5.1 D).1;rw[mem_ready];refine⟨(h.un _ M).2 ⟨x.2,aw4⟩,o,D,λe he L=>?_⟩;obtain⟨O,J⟩:=hs e he L;rw[aaO (h.sz▸J)];apply Classical.byContradiction;intro U;have N:F.getD e.on true=false:=by grind
 obtain⟨k,hk⟩:=(h.un _ J).1 N;rcases List.mem_cons.1 hk with hk|hk
 ·grind
 ·exact alk (hp.1 _ hk) D e he L rfl
theorem B6.step{L:Array Bool}{M N:List (Nat×Ky)}{i:Nat}{k:Ky}(h:B6 ops L (M++(i,k)::N))(hr:i∈Region.ready .any ops L):B6 ops (L.setIfInBounds i true) (M++N):=by
 obtain⟨p1,p2,p3⟩:=X6 M N (i,k) h.su;obtain⟨h0,o,Z,ah⟩:=mem_ready.1 hr;have an:=(aE5.1 Z).1;refine⟨by simp [h.sz],λj O=>?_,p3,λx hx=>h.self x ?_,λj O o' J e he U=>?_⟩
 ·by_cases D:i=j
  ·subst D;constructor
   ·simp
   ·rintro⟨k',F⟩;rcases av3.1 F with F|F
    ·exact(Zj (p1 (i,k') F) rfl).elim
    ·exact(Zj (p2 (i,k') F) rfl).elim
  ·rw[getD_set_ne true D,h.un j O];constructor
   ·grind
   ·grind
 ·grind
 ·by_cases D:i=j
  ·subst D;rw[Z]at J;injection J with J;subst J;exact getD_set_true (ah e he U)
  ·have Y:(L.setIfInBounds i true).getD j false=true:=O;rw[getD_set_ne false D]at Y;exact getD_set_true (h.closed j Y o' J e he U)
theorem aqX{n:Nat}(hd:FR n ops=true){E:cP}{K:SF->Hp->Prop}{KP:Value->Hp->Prop}(hK:∀σ h a w,Told n E σ h a w->K σ h->Q .normal a w)
  (ar:Nd KP) (hP:∀v h c a w,Conc E c h w->a.tmps.size=n->a.defers=E.df->KP v h->Q (.panic (FU v)) a w):∀(fuel:Nat) (L:Array Bool) (R:List (Nat×Ky)) (σ:SF) (h:Hp) (a:Act) (w:World),
  R.length<=fuel->B6 ops L R->Told n E σ h a w->jm P ops (pq ops.toList 0 0) none R σ h K KP->wpAny P .any ops Q fuel L a w:=by
 intro fuel
 induction fuel with
 |zero=>
  intro L R σ h a w hf D J Y;have hR:R=[]:=List.length_eq_zero_iff.1 (by omega)
  subst hR;refine⟨?_,hK σ h a w J Y⟩;cases hc:Region.ready .any ops L with
  |nil=>rfl
  |cons i t=>
   have hm:i∈Region.ready .any ops L:=by rw[hc];exact aw4
   obtain⟨h0,o,F,_⟩:=mem_ready.1 hm;obtain⟨k,hk⟩:=(D.un i (aE5.1 F).1).1 h0;cases hk
 |succ fuel ih=>
  intro L R σ h a w hf D J Y;refine⟨λh0=>?_,λi hi=>?_⟩
  ·cases R with
   |nil=>exact hK σ h a w J Y
   |cons x R=>have:=D.head;rw[h0]at this;cases this
  ·obtain⟨h0,o,F,az⟩:=mem_ready.1 hi;obtain⟨k,hk⟩:=(D.un i (aE5.1 F).1).1 h0;obtain⟨N,R2,rfl⟩:=List.append_of_mem hk;obtain⟨p1,p2,p3⟩:=X6 N R2 (i,k) D.su
   have hm:∀x∈N,pK (pq ops.toList 0 0) i x.1=false:=by
    intro x hx;apply Classical.byContradiction;intro hb;have O:pK (pq ops.toList 0 0) i x.1=true:=by grind
    unfold pK at O;rw[au0]at O;have hl:=amy D.closed ops.toList 0 0 (λj=>by simp) (λj _ k _ hk=>by simp at hk) i (λo' U e he aE=>by rw[F]at U;injection U with U;subst U;exact az e he aE) x.1 (of_decide_eq_true O.1) O.2
    obtain⟨ox,a6,_⟩:=Za (D.self x (aF6 _ hx));have an:=(aE5.1 a6).1;have:=(D.un x.1 an).2 ⟨x.2,aF6 _ hx⟩;rw[aaO (D.sz▸an),this]at hl;cases hl
   have Z:=jm.front (ms:=pq ops.toList 0 0) N R2 _ _ _ K KP ar p1 hm Y;have ah:=D.step hi;have hlen:(N++R2).length<=fuel:=by grind
   unfold wpOp;rw[F];simp only;have a7:=J;obtain⟨⟨c,g1,g2⟩,g3,g4⟩:=a7;rcases Z with⟨σ1,h1,s1,Z⟩|⟨_,pv,h1,⟨_,o2,M,hw,τ,H,H',f1,s1,rfl⟩,a1,_⟩
   ·rcases s1 with⟨b1,_⟩|⟨_,o2,M,⟨hw,τ,H,v,H',f1,s1,_,rfl,rfl⟩|⟨hw,rfl,rfl⟩⟩
    ·cases b1
    all_goals
     rw[F]at M;cases M;rw[R0 g2 hw]
    ·rw[if_pos rfl];exact .inl (anj (Ll hd F) J f1 s1 λa' w' h'=>ih _ _ _ _ a' w' hlen ah h' Z)
    ·rw[if_neg (by simp)]
     exact ih _ _ _ _ _ _ hlen ah (Y3 (Ll hd F) J) Z
   ·rw[F]at M;cases M;rw[R0 g2 hw];exact .inl (s1 E c h w a _ _ g1 f1.2.1 f1.2.2.1 (aaQ f1 g2) λw' c' q1 _=>hP pv _ c' a w' q1 g3 g4 a1)
end
theorem arT{P:Program}{Q:Exit->Act->World->Prop}{n:Nat}{E:cP}{id:Nat}{ops:List Oper}{σ:SF}{h:Hp}{a:Act}{w:World}{K:SF->Hp->Prop}{KP:Value->Hp->Prop}(order:List (Nat×Ky))(hm:P.follows .mixedOrders=true)(hl:order.length=ops.length)(hc:calm ops.toArray (pq ops 0 0) order=true)(U:FR n ops.toArray=true)
  (M:∀σ h a w,Told n E σ h a w->K σ h->Q .normal a w) (N:Nd KP) (O:∀v h c a w,Conc E c h w->a.tmps.size=n->a.defers=E.df->KP v h->Q (.panic (FU v)) a w) (ht:Told n E σ h a w) (Z:jm P ops.toArray (pq ops 0 0) none order σ h K KP):(Code.region id ops.toArray true).wp P Q a w:=
 wp_region_any hm (by
  unfold calm at hc;simp only[au0,ax0]at hc;obtain⟨⟨c1,c2⟩,F⟩:=hc
  have ah:Told n E σ h a {w with drawn:=w.drawn+1}:=by
   obtain⟨⟨c,h1,h2⟩,J,L⟩:=ht;obtain⟨g1,g2⟩:=h1.same (w':={w with drawn:=w.drawn+1}) ⟨rfl,rfl,rfl,Nat.le_refl _,λ_ _ _=>rfl⟩
   exact⟨⟨c,g1,λt=>(h2 t).fM g2⟩,J,L⟩
  refine aqX U M N O _ _ order σ h a _ (by grind) ⟨by simp,λj D=>?_,c1,F,λj D=>?_⟩ ah Z
  ·simp_all
  ·exfalso;by_cases Y:j<ops.length
   ·simp_all
   ·simp [Y]at D)
end
end Go.Proofs.YtejhifnjgoclpaaGreatDoor.Fx
