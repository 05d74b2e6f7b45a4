/- Parts of the proofs, put together by a program. -/
import Derived.Test.YtejhifnjgoclpaaGreatDoorE4
set_option linter.unusedVariables false
set_option linter.unusedSimpArgs false
open Bool renaming and_eq_true->ad0,or_eq_true->at3
open List renaming getElem?_eq_getElem->ae6,length_cons->af2,mem_cons_self->am5,all_eq_true->ao3,mem_cons_of_mem->as3
open Nat renaming eq_of_beq_eq_true->al2
open Option renaming bind_eq_some_iff->at8
namespace Go.Proofs.YtejhifnjgoclpaaGreatDoor.Fx
open Go.RowKit
set_option maxRecDepth 1000000
noncomputable section
section
variable {V R:Type}
def ie:Nat->(V->Option (V⊕R))->V->Option R
 |0,_,_=>none
 |n+1,f,v=>match f v with
  |some (.inl v')=>ie n f v'
  |some (.inr r)=>some r
  |none=>none
theorem Q6 {f:V->Option (V⊕R)}: ∀{n:Nat} {v:V} {r:R},ie n f v=some r-> ∀m,n<=m->ie m f v=some r:=by
 intro n
 induction n with
 |zero=>simp[ie]
 |succ n D=>
  intro v r h m hm;cases m with
  |zero=>omega
  |succ m=>grind[ie]
def MY:Nat->(V->Option (V⊕R))->V->Option (Option R)
 |0,_,_=>none
 |n+1,f,v=>match f v with
  |some (.inl v')=>MY n f v'
  |some (.inr r)=>some (some r)
  |none=>some none
theorem X6 {f:V->Option (V⊕R)} {o:Option R}: ∀{n:Nat} {v:V},MY n f v=some o-> ∀m,n<=m->ie m f v=o:=by
 intro n
 induction n with
 |zero=>intro v h;cases h
 |succ n D=>
  intro v h m hm;cases m with
  |zero=>omega
  |succ m=>grind[MY,ie]
open Classical in
noncomputable def ab (f:V->Option (V⊕R)) (v:V):Option R:=match MY 1000000 f v with
 |some o=>o
 |none=>if h: ∃r n,ie n f v=some r then some (Classical.choose h) else none
theorem mG {f:V->Option (V⊕R)} {v:V} {r:R}:ab f v=some r<-> ∃n,ie n f v=some r:=by
 unfold ab;split
 · rename_i o F;refine⟨λh=>⟨_,(X6 F _ (Nat.le_refl _)).trans h⟩,?_⟩;rintro⟨n,D⟩;rw[<-X6 F _ (Nat.le_max_left 1000000 n)];exact Q6 D _ (Nat.le_max_right _ _)
 constructor
 · intro h;split at h
   · grind
   · grind
 · rintro⟨n,D⟩;have J: ∃r n,ie n f v=some r:=⟨r,n,D⟩;rw[dif_pos J];obtain⟨m,hm⟩:=Classical.choose_spec J;have h1:=Q6 D (max n m) (by omega)
   have h2:=Q6 hm (max n m) (by omega)
   grind
theorem bJ (f:V->Option (V⊕R)) (v:V):ab f v=match f v with|some (.inl v')=>ab f v' |some (.inr r)=>some r |none=>none:=by
 cases e:f v with
 |none=>
  cases h:ab f v with
  |none=>rfl
  |some r=>
   obtain⟨n,D⟩:=mG.1 h;cases n with
   |zero=>cases D
   |succ n=>simp_all[ie]
 |some x=>
  cases x with
  |inr r=>exact mG.2 ⟨1,by unfold ie;rw[e]⟩
  |inl v'=>
   cases h:ab f v' with
   |some r=>obtain⟨n,D⟩:=mG.1 h;show ab f v=ab f v';rw[h];exact mG.2 ⟨n+1,by show(match f v with|some (.inl v')=>ie n f v' |some (.inr r)=>some r |none=>none)=some r;rw[e];exact D⟩
   |none=>
    cases h2:ab f v with
    |none=>grind
    |some r=>
     obtain⟨n,D⟩:=mG.1 h2;cases n with
     |zero=>cases D
     |succ n=>unfold ie at D;rw[e] at D;have:ab f v'=some r:=mG.2 ⟨n,D⟩;grind
end
section
variable {R:Type}
def ac0 (ow:List Nat) (pss:List (Nat×Ps)) (d:Option Tmp):Bool:=inL ow d|| !(Nj pss d).isEmpty
def lF (P:Program) (G:List (dh P)) (ow rd:List Nat) (pss:List (Nat×Ps)) (o:Oper) (s:aI) (K:DS->aG->Option R) (KP:Value->aG->Option R):Option R:=
 match o.op with
 |.call {callee:=.value y,args:=xs,argTypes:=_}=>match Nq s.sl y with
  |some (f,a,b)=>match M8 s.sl a xs.toList b with
   |some l=>pk P f l (ac0 ow pss o.dst) (eC rd (o.dst.getD 1000000)) (Nj pss o.dst) s.hp K KP G
   |none=>none
  |none=>none
 |.panic x=>match bB s.sl x with
  |some (.c (.v .val x))=>KP (.iface x.1 x.2) s.hp
  |_=>none
 |op=>xM P s (Cj ow o.dst) (eC rd (o.dst.getD 1000000)) o.dst op K
def ME (ow rd:List Nat) (pss:List (Nat×Ps)) (o:Oper):Bool:=
 match o.op with
 |.call {callee:=.value _,args:=_,argTypes:=_}=>(eC rd (o.dst.getD 1000000)&& !ac0 ow pss o.dst)||(Nj pss o.dst).isEmpty
 |.call {callee:=.builtin .append,args:=_,argTypes:=_}=>Cj ow o.dst
 |.call {callee:=.builtin .clear,args:=_,argTypes:=_}=>false
 |.buildSlice _ _ _=> !Cj ow o.dst
 |.alloc _=>false
 |.box _ _=>false
 |.store _ _ _=>false
 |.makeSlice _ _ _=>false
 |.range _ _=>false
 |.next _ _=>false
 |.slice _ _ _ none _=>true
 |.slice _ _ _ (some _) _=>false
 |_=>true
def MI (ops:Array Oper) (o:Oper) (s:aI) (k:Bool->aI->Option R):Option R:=
 match o.guard with
 |none=>k true s
 |some (j,want)=>
  match(ops[j]?).bind (·.dst) with
  |none=>k false s
  |some d=>
   match bU s.sl d with
   |.c (.kb b)=>k (b==want) s
   |.c (.v .bool x)=>cond x (k (true==want) ⟨oy s.sl d (.c (.kb true)),s.hp⟩) (k (false==want) ⟨oy s.sl d (.c (.kb false)),s.hp⟩)
   |.fk []=>k false s
   |_=>none
end
section
variable {R:Type} {y:R} {P:Program} {G:List (dh P)} {ow rd:List Nat} {pss:List (Nat×Ps)} {o:Oper} {s:aI}
theorem MF {K:DS->aG->Option R} {KP:Value->aG->Option R} (h:lF P G ow rd pss o s K KP=some y):(∃v H',K v H'=some y/\St P o s.sl s.hp v H')\/ ∃F H',KP F H'=some y/\Ic P o s.sl s.hp F H':=by
 obtain⟨dst,op,ty,pos,af,gd⟩:=o;unfold lF at h;split at h
 · rename_i U xs ats he;have he:=he;subst he;split at h<;>try (cases h;done)
   rename_i f a b M;split at h<;>try (cases h;done)
   rename_i l J;have:=SE (dst:=dst) (ty0:=ty) (pos:=pos) (af:=af) (gd:=gd) (ats:=ats) M J h;omega
 · rename_i x e;have e:=e;subst e;split at h<;>try (cases h;done)
   rename_i z O;refine .inr ⟨_,_,h,λE c h w a N Q hC hs _ L D=>?_⟩;have e:_=a.eval x:=(L x (by simp [Op.operands]) _ O).2
   rw[bC.self hs] at D;unfold Oper.wp;simp[execOp,<-e];exact D w c hC (eN.refl _ _ _)
 · exact .inl (arv h)
theorem XK {f:FuncId} {l:List DS} {ow rd:Bool} {ps:Ps} {H:aG} (D:(rd&& !ow||ps.isEmpty)=true) (K:DS->aG->Option R) (KP:Value->aG->Option R): ∀G:List (dh P),pk P f l ow rd ps H K KP G=pk P f l ow rd ps H (λv _=>K v H) KP G
 |[]=>rfl
 |g::r=>by
  unfold pk;rw[XK D K KP r];rw[at3] at D;split
  · rfl
  · split
    · rfl
    · rcases D with D |D
      · rw[D]
      · cases ps with
        |nil=>rfl
        |cons=>grind
theorem anp (D:ME ow rd pss o=true) (K:DS->aG->Option R) (KP:Value->aG->Option R):lF P G ow rd pss o s K KP=lF P G ow rd pss o s (λv _=>K v s.hp) KP:=by
 obtain⟨dst,op,ty,pos,af,gd⟩:=o;unfold lF;dsimp only;split
 · split
   · split
     · exact XK D _ _ _
     · rfl
   · rfl
 · rfl
 · unfold ME at D;dsimp only at D;generalize Cj ow dst=b at D⊢;generalize eC rd (dst.getD 1000000)=L;unfold xM;split<;>first |rfl |(cases D;done) |skip
   · rename_i ty x J F _ _;cases F with
     |some F=>cases D
     |none=>
      have key: ∀v l,wH P s.hp ty v l none K=wH P s.hp ty v l none λv _=>K v s.hp:=λv l=>by
       unfold wH
       repeat' (first |rfl |contradiction |split)
      cases bB s.sl x with
      |none=>rfl
      |some v=>cases xP s.sl J with
       |none=>rfl
       |some l=>exact key v l
   · cases b with
     |true=>cases D
     |false=>repeat' (first |rfl |split)
   · have D:=D;subst D
     have key: ∀ty v u,wF P s.hp true dst ty v u K=wF P s.hp true dst ty v u λv _=>K v s.hp:=λty v u=>by
      unfold wF
      repeat' (first |rfl |contradiction |split)
     simp[key]
theorem ano {K:DS->Option R} {KP:Value->aG->Option R} (F:ME ow rd pss o=true) (h:lF P G ow rd pss o s (λv _=>K v) KP=some y):(∃v,K v=some y/\St P o s.sl s.hp v s.hp)\/ ∃D H',KP D H'=some y:=by
 classical
 have e:lF P G ow rd pss o s (λv H'=>if H'=s.hp then K v else none) KP=some y:=by rw[anp F];grind
 rcases MF e with⟨v,H',h1,h2⟩ |⟨D,H',h1,h2⟩
 · grind
 · grind
end
section
variable {R:Type}
def xW (H H':aG):Prop:= ∀k,aj H' k=none->aj H k=none
theorem xW.set {H A:aG} (h:xW H A) (k:Nat) (o:aX):xW H (oset A k o):=λq e=>by
 rw[jh] at e;by_cases D:q=k
 · grind[gl]
 · rw[iG D] at e;exact h q e
theorem aaH {ps:Ps} {H H1:aG}: ∀{l:Ps} {A:aG},uB ps H H1 l=some A->xW H A
 |[],A,h=>by cases h;exact λ_ h=>h
 |(j,k)::r,A,h=>by
  unfold uB at h;split at h<;>try (cases h;done)
  split at h<;>try (cases h;done)
  cases h;exact(aaH (by omega)).set _ _
open Classical in
def qP {α:Type} (H:aG) (K:α->aG->Option R):α->aG->Option R:=λv H'=>if xW H H' then K v H' else none
theorem Rv {α:Type} (H:aG) (K:α->aG->Option R) (v:α):qP H K v H=K v H:=if_pos λ_ h=>h
theorem apd {α:Type} (H:aG) (K:α->aG->Option R) (v:α) (k:Nat) (o:aX):qP H K v (oset H k o)=K v (oset H k o):=if_pos (xW.set (λ_ h=>h) k o)
theorem Yk {P:Program} {f:FuncId} {l:List DS} {ow rd:Bool} {ps:Ps} {H:aG} (K:DS->aG->Option R) (KP:Value->aG->Option R): ∀G:List (dh P),pk P f l ow rd ps H (qP H K) (qP H KP) G=pk P f l ow rd ps H K KP G
 |[]=>rfl
 |g::r=>by
  have D: ∀{α:Type} H1 v (K:α->aG->Option R),wX ps H H1 (qP H K v)=wX ps H H1 (K v):=λH1 v K=>by
   unfold wX;split
   · rename_i A hA;exact if_pos (aaH hA)
   · rfl
  unfold pk;simp[Yk K KP r,Rv,D]
theorem aoV {P:Program} {G:List (dh P)} {ow rd:List Nat} {pss:List (Nat×Ps)} {o:Oper} {s:aI} (K:DS->aG->Option R) (KP:Value->aG->Option R):lF P G ow rd pss o s (qP s.hp K) (qP s.hp KP)=lF P G ow rd pss o s K KP:=by
 unfold lF;simp[Yk,Rv];have: ∀b D dst op,xM P s b D dst op (qP s.hp K)=xM P s b D dst op K:=λb D dst op=>by unfold xM wF wH MB MN Mn a2a a2c;simp only[Rv,apd]
 grind
theorem aqp {y:R} {P:Program} {G:List (dh P)} {ow rd:List Nat} {pss:List (Nat×Ps)} {o:Oper} {s:aI} {K:DS->aG->Option R} {KP:Value->aG->Option R} (h:lF P G ow rd pss o s K KP=some y):(∃v H',K v H'=some y/\St P o s.sl s.hp v H'/\bC (aj s.hp) (aj H')=aj H')\/ ∃D H',KP D H'=some y/\Ic P o s.sl s.hp D H'/\bC (aj s.hp) (aj H')=aj H':=by
 have key: ∀{H H':aG},xW H H'->bC (aj H) (aj H')=aj H':=λ{H H'} hc=>by
  funext k;unfold bC;cases e:aj H' k with
  |none=>exact hc k e
  |some o=>rfl
 rw[<-aoV] at h;rcases MF h with⟨v,H',h1,h2⟩ |⟨D,H',h1,h2⟩
 · grind[qP]
 · grind[qP]
end
def nf (sl:cG):SF:=λt=>iQ (bU sl t)
theorem AL (sl:cG) (d:Option Tmp) (v:DS):nf (mV sl d v)=im (nf sl) d (iQ v):=by
 funext t;unfold nf;rw[Fo];cases d with
 |none=>rfl
 |some d=>
  show iQ (bY (bU sl) d v t)=bY (nf sl) d (iQ v) t;by_cases e:t=d
  · grind[gl]
  · rw[iG e,iG e];rfl
theorem Y2 {R:Type} {y:R} {ops:Array Oper} {o:Oper} {s:aI} {K:Bool->aI->Option R} (h:MI ops o s K=some y): ∃b s1,K b s1=some y/\s1.hp=s.hp/\nf s1.sl=nf s.sl/\qM ops (nf s.sl) o=some b:=by
 unfold MI at h;unfold qM;split at h
 · grind
 · rename_i j want M;rw[M];simp only;split at h
   · grind
   · rename_i d L;rw[L];simp only
     have J: ∀b,iQ (bU s.sl d)=.c (.v .bool b)->nf (oy s.sl d (.c (.kb b)))=nf s.sl:=λb e=>by
      have:=AL s.sl (some d) (.c (.kb b));refine this.trans ?_;funext t;show bY _ d _ t=_;by_cases F:t=d
      · subst F;rw[gl];exact e.symm
      · rw[iG F]
     split at h<;>try (cases h;done)
     · rename_i b D;exact⟨_,s,h,rfl,rfl,by unfold nf;rw[D];rfl⟩
     · rename_i x D;have hw:nf s.sl d=.c (.v .bool x):=by unfold nf;rw[D];rfl
       rw[hw];cases x with
       |true=>exact⟨_,_,h,rfl,J true hw,rfl⟩
       |false=>exact⟨_,_,h,rfl,J false hw,rfl⟩
     · rename_i D;exact⟨false,s,h,rfl,rfl,by unfold nf;rw[D];rfl⟩
def kz (S:KS) (H:aG):aG:=H.filter λp=>S.has p.1
theorem LY (S:KS): ∀(H:aG) (k:Nat),aj (kz S H) k=if S.has k=true then aj H k else none
 |[],k=>by unfold kz;simp [aj]
 |(q,o)::H,k=>by
  have D:=LY S H k;unfold kz at D⊢;rw[List.filter_cons];by_cases e:q=k
  · subst e;by_cases J:S.has q=true
    · simp_all[aj]
    · grind
  · have F:aj ((q,o)::H) k=aj H k:=by show(if q=k then _ else _)=_;rw[if_neg e]
    rw[F,<-D];split
    · show(if q=k then _ else _)=_;grind
    · rfl
def HU (H:aG):aG->aG
 |[]=>H
 |p::r=>oset (HU H r) p.1 p.2
theorem Sc (H:aG): ∀H':aG,aj (HU H H')=bC (aj H) (aj H')
 |[]=>rfl
 |(q,o)::r=>by
  funext k;show aj (oset (HU H r) q o) k=_;rw[jh,Sc H r];unfold bC;show bY _ q _ k=(if q=k then some o else aj r k).or _
  by_cases e:q=k
  · grind[gl]
  · rw[iG (Ne.symm e),if_neg e]
section
variable {R:Type}
def a2S (κ:Ky) (pss:List (Nat×Ps)) (o:Oper):Bool:=
 match o.op with
 |.call {callee:=.value _,args:=_,argTypes:=_}=>(a0j (Nj pss o.dst)).all λp=> !eC κ.R p.2
 |_=>κ.R.isEmpty
theorem a3A {ps:Ps} {H H1:aG} {L:List Nat}: ∀{l:Ps} {A:aG},uB ps H H1 l=some A->(l.all λp=> !eC L p.2)=true-> ∀k,eC L k=true->aj A k=aj H k
 |[],A,h,_=>by cases h;grind
 |(j,k)::r,A,h,D=>by
  rw[List.all_cons,ad0] at D;unfold uB at h;split at h<;>try (cases h;done)
  split at h<;>try (cases h;done)
  cases h;intro q J;have F:q≠k:=λe=>by have:=D.1;grind
  rw[jh,iG F];exact a3A (by omega) D.2 q J
open Classical in
def a0A {α:Type} {R:Type} (L:List Nat) (H:aG) (K:α->aG->Option R):α->aG->Option R:=λv H'=>if∀k,eC L k=true->aj H' k=aj H k then K v H' else none
theorem a4D {α:Type} {R:Type} (L:List Nat) (H:aG) (K:α->aG->Option R) (v:α):a0A L H K v H=K v H:=if_pos λ_ _=>rfl
theorem a4M {α:Type} {R:Type} (H:aG) (K:α->aG->Option R):a0A [] H K=K:=funext λv=>funext λH'=>if_pos λk e=>by cases e
theorem a3z {R:Type} {P:Program} {f:FuncId} {l:List DS} {ow rd:Bool} {ps:Ps} {H:aG} {L:List Nat} (D:((a0j ps).all λp=> !eC L p.2)=true) (K:DS->aG->Option R) (KP:Value->aG->Option R): ∀G:List (dh P),pk P f l ow rd ps H (a0A L H K) (a0A L H KP) G=pk P f l ow rd ps H K KP G
 |[]=>rfl
 |g::r=>by
  have F: ∀{α:Type} H1 v (K:α->aG->Option R),wX ps H H1 (a0A L H K v)=wX ps H H1 (K v):=λH1 v K=>by
   unfold wX;split
   · rename_i A hA;exact if_pos (a3A hA D)
   · rfl
  unfold pk;simp[a3z D K KP r,a4D,F]
theorem a4O {R:Type} {P:Program} {G:List (dh P)} {ow rd:List Nat} {pss:List (Nat×Ps)} {o:Oper} {s:aI} {κ:Ky} (h:a2S κ pss o=true) (K:DS->aG->Option R) (KP:Value->aG->Option R):lF P G ow rd pss o s (a0A κ.R s.hp K) (a0A κ.R s.hp KP)=lF P G ow rd pss o s K KP:=by
 unfold a2S at h;split at h
 · rename_i heq;unfold lF;simp[heq,a3z h]
 · grind[a4M]
def VE (P:Program) (G:List (dh P)) (ow rd:List Nat) (pss:List (Nat×Ps)) (κ:Ky) (st:Bool) (o:Oper) (s:aI) (K:aI->Option R) (KP:Value->aG->Option R):Option R:=
 match κ.wr with
 |true=>only (a2S κ pss o) (lF P G ow rd pss o ⟨s.sl,kz κ.S s.hp⟩ (λv H'=>only (H'.all (λp=>κ.S.has p.1)&&(!st||H'.all λp=>Nat.blt p.1 1000&&kt s.hp p.1)) (K ⟨mV s.sl o.dst v,HU s.hp H'⟩)) λD H'=>only (κ.dK&&H'.all λp=>κ.S.has p.1) (KP D (HU s.hp H')))
 |false=>match ME ow rd pss o with
  |true=>lF P G ow rd pss o ⟨s.sl,kz κ.S s.hp⟩ (λv _=>K ⟨mV s.sl o.dst v,s.hp⟩) λ_ _=>none
  |false=>only (kz κ.S s.hp).isEmpty (lF P G ow rd pss o ⟨s.sl,[]⟩ (λv H'=>only H'.isEmpty (K ⟨mV s.sl o.dst v,s.hp⟩)) λ_ _=>none)
def ar6 (ms i:Nat):Option Nat->Bool
 |some p=>pH ms i p
 |none=>false
def xo (P:Program) (G:List (dh P)) (ow rd:List Nat) (pss:List (Nat×Ps)) (ops:Array Oper) (ms:Nat):List (Oper×Ky)->Nat->Option Nat->(R:Type)->aI->(aI->Option R)->(Value->aG->Option R)->Option R
 |[],_,_,_,s,K,_=>K s
 |(o,κ)::r,i,x,R,s,K,KP=>match ar6 ms i x with
  |true=>xo P G ow rd pss ops ms r (i+1) x R s K KP
  |false=>MI ops o s λb s=>match b with
   |true=>VE P G ow rd pss κ x.isSome o s (λF=>xo P G ow rd pss ops ms r (i+1) x R F K KP) λD H'=>(xo P G ow rd pss ops ms r (i+1) (some i) Unit s (λ_=>some ()) λ_ _=>none).bind λ_=>KP D H'
   |false=>xo P G ow rd pss ops ms r (i+1) x R ⟨mV s.sl o.dst (.fk []),s.hp⟩ K KP
end
section
variable {P:Program} {G:List (dh P)} {ow rd:List Nat} {pss:List (Nat×Ps)} {o:Oper} {s:aI}
theorem all_keys {S:KS} {H:aG} (h:(H.all λp=>S.has p.1)=true) {k:Nat} (hk:S.has k=false):aj H k=none:=by
 cases e:aj H k with
 |none=>rfl
 |some o=>have:=ao3.1 h _ (Ah e);grind
theorem LP {κ:Ky} {H':aG} (h1: ∀k,κ.S.has k=false->aj H' k=none) (h2: ∀k,κ.ro k=true->aj H' k=aj (kz κ.S s.hp) k):gS κ o (nf s.sl) (aj s.hp) s.sl (kz κ.S s.hp) H':=by
 refine⟨λ_ _=>rfl,λk o e=>?_,λk e D=>?_,λk hk=>⟨by rw[LY,if_neg (by grind)],h1 k hk⟩,h2⟩<;>rw[LY] at e<;>split at e
 · omega
 · grind
 · omega
 · grind
theorem aru {R:Type} {y:R} {κ:Ky} {st:Bool} {K:aI->Option R} {KP:Value->aG->Option R} (h:VE P G ow rd pss κ st o s K KP=some y):
  (∃v H' L,gS κ o (nf s.sl) (aj s.hp) s.sl (kz κ.S s.hp) H'/\St P o s.sl (kz κ.S s.hp) v H'/\(st=true->Stl κ (aj s.hp) H')/\K L=some y/\nf L.sl=im (nf s.sl) o.dst (iQ v)/\aj L.hp=bC (aj s.hp) (aj H'))\/
  (κ.dK=true/\ ∃F H' M,gS κ o (nf s.sl) (aj s.hp) s.sl (kz κ.S s.hp) H'/\Ic P o s.sl (kz κ.S s.hp) F H'/\KP F M=some y/\aj M=bC (aj s.hp) (aj H')):=by
 have self: ∀{H'},gS κ o (nf s.sl) (aj s.hp) s.sl (kz κ.S s.hp) H'->κ.wr=false->aj s.hp=bC (aj s.hp) (aj H'):=λhf hu=>(hf.still hu).symm;unfold VE at h;split at h
 · rename_i hu;obtain⟨hR,h⟩:=bL h;have N: ∀{H':aG},(∀k,eC κ.R k=true->aj H' k=aj (kz κ.S s.hp) k)-> ∀k,κ.ro k=true->aj H' k=aj (kz κ.S s.hp) k:=λhs k e=>hs k (by unfold Ky.ro at e;rw[hu] at e;exact e)
   rw[<-a4O hR] at h;rcases MF h with⟨v,H',h1,h2⟩ |⟨F,H',h1,h2⟩
   · unfold a0A at h1;split at h1<;>try (cases h1;done)
     rename_i hs;obtain⟨D,J⟩:=bL h1;rw[ad0,at3] at D;refine .inl ⟨v,H',_,LP (λk hk=>all_keys D.1 hk) (N hs),h2,λe=>?_,J,AL _ _ _,Sc _ _⟩;have U:=D.2.resolve_left λq=>by rw[e] at q;grind
     refine .inr λk hk=>?_;obtain⟨o',O⟩:=Option.ne_none_iff_exists'.1 hk;have:=ao3.1 U _ (Ah O);rw[ad0,Nat.blt_eq] at this;exact⟨this.1,FN this.2⟩
   · unfold a0A at h1;split at h1<;>try (cases h1;done)
     rename_i hs;obtain⟨D,J⟩:=bL h1;rw[ad0] at D;exact .inr ⟨D.1,F,H',_,LP (λk hk=>all_keys D.2 hk) (N hs),h2,J,Sc _ _⟩
 · rename_i hu;split at h
   · rename_i Y;rcases ano Y h with⟨v,h1,h2⟩ |⟨F,H',h1⟩
     · have hf:gS κ o (nf s.sl) (aj s.hp) s.sl (kz κ.S s.hp) (kz κ.S s.hp):=LP (λk hk=>by rw[LY,if_neg (by grind)]) λ_ _=>rfl
       exact .inl ⟨v,_,_,hf,h2,λ_=>.inl hu,h1,AL _ _ _,self hf hu⟩
     · grind
   · obtain⟨he,h⟩:=bL h;have he:=List.isEmpty_iff.1 he;rcases MF h with⟨v,H',h1,h2⟩ |⟨F,H',h1,h2⟩
     · obtain⟨D,J⟩:=bL h1;have D:=List.isEmpty_iff.1 D;subst D;have hf:gS κ o (nf s.sl) (aj s.hp) s.sl (kz κ.S s.hp) []:=LP (λ_ _=>rfl) λ_ _=>by rw[he]
       exact .inl ⟨v,_,_,hf,by rw[he];exact h2,λ_=>.inl hu,J,AL _ _ _,self hf hu⟩
     · grind
theorem jb.mono {ops:Array Oper} {ms:Nat} {K F:SF->Hp->Prop} {KP J:Value->Hp->Prop} (L: ∀σ h,K σ h->F σ h) (M: ∀v h,KP v h->J v h): ∀{l:List (Nat×Ky)} {x:Option Nat} {σ:SF} {h:Hp},jb P ops ms x l σ h K KP->jb P ops ms x l σ h F J
 |[],_,_,_,h=>L _ _ h
 |X::r,x,σ,h,D=>by
  rcases D with⟨σ1,h1,g1,D⟩ |⟨e,N,h1,g1,g2,D⟩
  · exact .inl ⟨σ1,h1,g1,jb.mono L M D⟩
  · exact .inr ⟨e,N,h1,g1,M _ _ g2,D⟩
theorem F2 {ops:Array Oper} {ms:Nat}: ∀{l:List (Oper×Ky)} {i:Nat} {x:Option Nat} {R:Type} {y:R} {s:aI} {K:aI->Option R} {KP:Value->aG->Option R},(x≠none-> ∀D H,KP D H=none)->(∀j,(l[j]?).map (·.1)=ops[i+j]?)->xo P G ow rd pss ops ms l i x R s K KP=some y->
  jb P ops ms x ((l.zipIdx i).map λp=>(p.2,p.1.2)) (nf s.sl) (aj s.hp) (λσ h=> ∃J,σ=nf J.sl/\h=aj J.hp/\K J=some y) λD h=> ∃H,h=aj H/\KP D H=some y
 |[],i,x,R,y,s,K,KP,_,_,h=>⟨s,rfl,rfl,h⟩
 |(o,κ)::r,i,x,R,y,s,K,KP,O,Y,h=>by
  have N:ops[i]? =some o:=by have:=Y 0;grind
  have F: ∀j,(r[j]?).map (·.1)=ops[i+1+j]? :=λj=>by have:=Y (j+1);grind
  unfold xo at h;split at h
  · rename_i hs;refine .inl ⟨_,_,.inl ⟨?_,rfl,rfl⟩,F2 O F h⟩;cases x with
    |none=>cases hs
    |some p=>exact hs
  · rename_i hs
    have U:Uu ms i x false:=by
     cases x with
     |none=>rfl
     |some p=>exact hs
    obtain⟨b,s1,h1,L,M,hw⟩:=Y2 h;cases b with
    |false=>have:=F2 (s:=⟨mV s1.sl o.dst (.fk []),s1.hp⟩) O F h1;rw[AL,L,M] at this;exact .inl ⟨_,_,.inr ⟨U,o,N,.inr ⟨hw,rfl,rfl⟩⟩,this⟩
    |true=>
     rcases aru h1 with⟨v,H',J,f1,g1,g2,g3,g4,g5⟩ |⟨p1,D,H',Z,f1,g1,g2,g3⟩
     · have:=F2 O F g3;rw[g4,g5] at this;rw[L,M] at*;exact .inl ⟨_,_,.inr ⟨U,o,N,.inl ⟨hw,_,_,v,H',f1,g1,λq=>g2 (by cases x with|none=>exact(q rfl).elim |some p=>rfl),rfl,rfl⟩⟩,this⟩
     · obtain⟨_,q1,q2⟩:=at8.1 g2;have ah:x=none:=by grind
       have:=F2 (λ_ _ _=>rfl) F q1;rw[L,M] at*;exact .inr ⟨ah,D,_,⟨p1,o,N,hw,_,_,H',f1,g1,rfl⟩,⟨Z,g3.symm,q2⟩,this.mono (λ_ _ _=>trivial) λ_ _ ⟨_,_,q⟩=>by cases q⟩
end
inductive dr where
 |normal
 |exit (id:Nat)
 |ret
 |dK (v:Value)
abbrev gu (n:Nat) (E:cQ) (s:aI) (a:Act) (w:World):Prop:=Told n E (bU s.sl) (aj s.hp) a w
def A8 (n:Nat) (E:cQ) (s:aI) (a:Act) (w:World):Prop:=(∃c h,Conc E c h w/\Sub s.hp h/\(∀k,h k≠none->aj s.hp k=none->k<1000)/\ ∀t,SR c h w (a.tmps.getD t undef) (bU s.sl t))/\a.tmps.size=n/\a.defers=E.df
def T6 (n:Nat) (E:cQ) (Q:dr->aI->Prop):Exit->Act->World->Prop
 |.normal,a,w=> ∃s,gu n E s a w/\Q .normal s
 |.exit id,a,w=> ∃s,gu n E s a w/\Q (.exit id) s
 |.ret,a,w=> ∃s,gu n E s a w/\Q .ret s
 |.panic D,a,w=> ∃s v,D=F9 v/\A8 n E s a w/\Q (.dK v) s
 |_,_,_=>False
def Wk (e:dr) (s D:aI):Prop:=D=s\/so s D\/((∀v,e≠.dK v)/\fH s D)
def Uo (Q:dr->aI->Prop):dr->aI->Prop:=λe s=> ∃D,Wk e s D/\Q e D
def kK (P:Program) (n:Nat) (c:Code) (Q:dr->aI->Prop) (s:aI):Prop:= ∀E a w,gu n E s a w->c.wp P (T6 n E Q) a w
section
variable {P:Program} {n:Nat} {E:cQ} {Q:dr->aI->Prop} {s:aI}
theorem Au {sl:cG} {h:Hp} {a:Act} {w:World}:Told n E (nf sl) h a w<->Told n E (bU sl) h a w:=
 ⟨λ⟨⟨c,h1,h2⟩,D⟩=>⟨⟨c,h1,λt=>SR.iQ.1 (h2 t)⟩,D⟩,λ⟨⟨c,h1,h2⟩,D⟩=>⟨⟨c,h1,λt=>SR.iQ.2 (h2 t)⟩,D⟩⟩
theorem gu.p {a:Act} {w:World} (h:gu n E s a w):A8 n E s a w:=by obtain⟨⟨c,h1,h2⟩,D⟩:=h;exact⟨⟨c,_,h1,λ_ _ h=>h,λk h1 h2=>(h1 h2).elim,h2⟩,D⟩
theorem Gp.told {x:Nat} {D:aI} (hw:Gp x s D) (M:E.H x=none) {a:Act} {w:World} (h:A8 n E s a w):gu n E D a w:=by obtain⟨⟨c,h0,h1,h2,F,J⟩,L⟩:=h;exact⟨hw E c h0 w _ M h1 h2 F J,L⟩
theorem so.told {D:aI} (hw:so s D) {a:Act} {w:World} (h:A8 n E s a w):gu n E D a w:=Gp.told hw (by obtain⟨⟨c,h0,h1,_⟩,_⟩:=h;exact acZ h1) h
theorem abK {c:Code} (h:kK P n c (Uo Q) s):kK P n c Q s:=λE a w F=>Code.wp_mono (λe a w h=>by
 have key: ∀{e:dr} {s D:aI},(∀v,e≠.dK v)->Wk e s D->gu n E s a w->gu n E D a w:=λhe hw F=>by
  rcases hw with rfl |hw |⟨_,hw⟩
  · exact F
  · exact hw.told F.p
  · exact hw.told F
 cases e<;>first |exact h.elim |skip
 · obtain⟨s,h1,D,g1,g2⟩:=h;exact⟨D,key (e:=.normal) (λv h=>nomatch h) g1 h1,g2⟩
 · obtain⟨s,h1,D,g1,g2⟩:=h;exact⟨D,key (e:=.exit _) (λv h=>nomatch h) g1 h1,g2⟩
 · obtain⟨s,h1,D,g1,g2⟩:=h;exact⟨D,key (e:=.ret) (λv h=>nomatch h) g1 h1,g2⟩
 · obtain⟨s,v,h0,h1,D,g1,g2⟩:=h;refine⟨D,v,h0,?_,g2⟩;rcases g1 with rfl |hw |⟨q,_⟩
   · exact h1
   · exact(hw.told h1).p
   · exact(q v rfl).elim) (h E a w F)
theorem L6 {c:Code} {D:aI} (hw:fH s D) (h:kK P n c Q D):kK P n c Q s:=λE a w F=>h E a w (hw.told F)
def acw (K:aI->Prop) (Q:dr->aI->Prop):dr->aI->Prop
 |.normal,s=>K s
 |e,s=>Q e s
theorem aq7 {x y:Code} (h:kK P n x (acw (kK P n y Q) Q) s):kK P n (.seq x y) Q s:=λE a w F=>
 wp_seq (Code.wp_mono (λe a w D=>by
  cases e<;>first |exact D.elim |exact D |skip
  obtain⟨J,h1,h2⟩:=D;exact h2 E a w h1) (h E a w F))
def arE (id:Nat) (Q:dr->aI->Prop):dr->aI->Prop
 |.exit D,s=>if D=id then Q .normal s else Q (.exit D) s
 |e,s=>Q e s
theorem aoe {id:Nat} {c:Code} (h:kK P n c (arE id Q) s):kK P n (.block id c) Q s:=λE a w M=>
 wp_block (Code.wp_mono (λe a w J=>by
  cases e<;>first |exact J.elim |exact J |skip
  rename_i L;obtain⟨F,h1,h2⟩:=J;have D:if L=id then Q .normal F else Q (.exit L) F:=h2
  show if L=id then _ else _
  split
  · rename_i e;rw[if_pos e] at D;exact⟨F,h1,D⟩
  · rename_i e;rw[if_neg e] at D;exact⟨F,h1,D⟩) (h E a w M))
theorem acf {c:Cx} {h:Hp} {w:World} {a:Act} {sl:cG} (hs: ∀t,SR c h w (a.tmps.getD t undef) (bU sl t)) {x:Operand} {d:DS} (D:bB sl x=some d):SR c h w (a.eval x) d:=by
 cases x with
 |tmp t=>cases D;exact hs t
 |const v=>exact Zc D
 |global g=>cases D
 |func f=>cases D;exact⟨[],[],rfl,.nil,.nil⟩
theorem SH {c:Operand} {x y:Code} {b:Bool} (hc: ∃d,bB s.sl c=some d/\iQ d=.c (.v .bool b)) (h1:b=true->kK P n x Q s) (h2:b=false->kK P n y Q s):kK P n (.cond c x y) Q s:=λE a w N=>by obtain⟨d,L,M⟩:=hc;obtain⟨⟨F,g1,g2⟩,g3⟩:=N;have J:=SR.iQ.2 (acf g2 L);rw[M] at J;have e:Value.bool b=a.eval c:=J.2;exact wp_cond_split e.symm (λD=>h1 D E a w ⟨⟨F,g1,g2⟩,g3⟩) λD=>h2 D E a w ⟨⟨F,g1,g2⟩,g3⟩
def Mw (P:Program) (n:Nat) (c:Code) (Q:dr->aI->Prop):Nat->aI->Prop
 |0,_=>False
 |k+1,s=>kK P n c (acw (Mw P n c Q k) Q) s
theorem amu {c:Code} (k:Nat) (h:Mw P n c Q k s):kK P n (.loop c) Q s:=λE a w J=>by
 refine wp_loop_rounds k ?_
 induction k generalizing s a w with
 |zero=>exact h.elim
 |succ k L=>
  rw[rounds_succ];refine Code.wp_mono (λe F w' D=>?_) (h E a w J);cases e<;>first |exact D.elim |exact D |skip
  obtain⟨M,h1,h2⟩:=D;exact L h2 F w' h1
theorem ajl {c:Code} {k:Nat} {D:aI} (hw:fH s D) (h:Mw P n c Q k D):Mw P n c Q k s:=by
 cases k with
 |zero=>exact h.elim
 |succ k=>exact L6 hw h
end
inductive EK where
 |normal
 |exit (id:Nat)
 |ret
 |dK
@[reducible] def Ii:EK×Shape->Type
 |(.dK,sh)=>Value×cv sh
 |(_,sh)=>cv sh
@[reducible] def JO:List (EK×Shape)->Type
 |[]=>Empty
 |a::[]=>Ii a
 |a::r=>Ii a⊕JO r
def Np:(a:EK×Shape)->dr->aI->Option (Ii a)
 |(.normal,sh),.normal,s=>qO sh s
 |(.exit i,sh),.exit j,s=>match Nat.beq i j with|true=>qO sh s |false=>none
 |(.ret,sh),.ret,s=>qO sh s
 |(.dK,sh),.dK v,s=>match qO sh s with|some x=>some (v,x) |none=>none
 |_,_,_=>none
def Bg {R:Type}:(a:EK×Shape)->Ii a->(dr->aI->Option R)->Option R
 |(.normal,sh),x,K=>K .normal (mkD sh x)
 |(.exit i,sh),x,K=>K (.exit i) (mkD sh x)
 |(.ret,sh),x,K=>K .ret (mkD sh x)
 |(.dK,sh),x,K=>K (.dK x.1) (mkD sh x.2)
def No:(l:List (EK×Shape))->dr->aI->Option (JO l)
 |[],_,_=>none
 |a::[],e,s=>Np a e s
 |a::b::r,e,s=>match Np a e s with
  |some v=>some (.inl v)
  |none=>match No (b::r) e s with|some v=>some (.inr v) |none=>none
def Uj {R:Type}:(l:List (EK×Shape))->JO l->(dr->aI->Option R)->Option R
 |[],_,_=>none
 |a::[],v,K=>Bg a v K
 |a::b::r,v,K=>match v with
  |.inl v=>Bg a v K
  |.inr v=>Uj (b::r) v K
theorem abl {R:Type} {K:dr->aI->Option R} {a:EK×Shape} {e:dr} {s:aI} {o:Ii a} (h:Np a e s=some o): ∃D,so s D/\Bg a o K=K e D:=by
 unfold Np at h;split at h
 · exact⟨_,tN h,rfl⟩
 · split at h
   · rename_i F;obtain rfl:=al2 F;exact⟨_,tN h,rfl⟩
   · grind
 · exact⟨_,tN h,rfl⟩
 · split at h
   · rename_i x J;cases h;exact⟨_,tN J,rfl⟩
   · grind
 · grind
theorem abk {R:Type} {K:dr->aI->Option R}: ∀{l:List (EK×Shape)} {e:dr} {s:aI} {o:JO l},No l e s=some o-> ∃F,so s F/\Uj l o K=K e F
 |[],_,_,_,h=>by cases h
 |a::[],_,_,_,h=>abl h
 |a::b::r,e,s,o,h=>by
  unfold No at h;split at h
  · rename_i v D;cases h;exact abl D
  · split at h
    · rename_i v D;cases h;exact abk (l:=b::r) D
    · grind
structure bE where
 un:List Un:=[]
 pre:List Gh:=[]
 unp:List Un:=[]
 post:List Gh:=[]
 ow:List Nat:=[]
 rd:List Nat:=[]
 ps:List (Nat×List (Nat×Nat)):=[]
 kf:List (Nat×Ky):=[]
 gx:List (Nat×List Gh):=[]
 ux:List (Nat×List Un):=[]
 cn:List (Nat×List Nat):=[]
 cs:Option (Nat×List UInt8×List Gh):=none
 cut:List (EK×Shape):=[]
 loop:Option Shape:=none
def fO:List (Nat×bE)->Nat->bE
 |[],_=>{}
 |(q,a)::r,p=>match Nat.beq q p with|true=>a |false=>fO r p
def M7 (cs:Option (Nat×List UInt8×List Gh)) (body:(R:Type)->aI->(dr->aI->Option R)->Option R) (R:Type) (s:aI) (K:dr->aI->Option R):Option R:=
 match cs with
 |none=>body R s K
 |some (t,c,gs)=>match bU s.sl t with
  |.c (.v .str x)=>cond (decide (x=c)) (body R (vj gs s) K) (body R s K)
  |_=>body R s K
def qL (a:bE) (body:(R:Type)->aI->(dr->aI->Option R)->Option R) (R:Type) (s:aI) (K:dr->aI->Option R):Option R:=MS a.un s λs=>
 match a.cut with
 |[]=>M7 a.cs body R (vj a.pre s) λe D=>match e with
  |.normal=>MS a.unp D λD=>K .normal (vj a.post D)
  |e=>K e D
 |alt::r=>(M7 a.cs body (JO (alt::r)) (vj a.pre s) (No (alt::r))).bind λo=>Uj (alt::r) o K
def Uq:List (Nat×List Gh)->Nat->List Gh
 |[],_=>[]
 |(q,l)::r,i=>match Nat.beq q i with|true=>l |false=>Uq r i
def ac2 (ow:List Nat) (o:Oper):Bool:=match o.op with
 |.alloc _=>true
 |.box _ _=>true
 |.makeSlice _ _ _=>true
 |.buildSlice _ _ _=>Cj ow o.dst
 |_=>false
def asM (ow rd D:List Nat) (o:Oper):Ky:=match ac2 ow o with
 |true=>.n (o.dst.getD 0)
 |false=>match o.op with
  |.load _ _=>⟨false,false,.o D,[]⟩
  |.fieldAddr _ _ _=>⟨false,false,.o D,[]⟩
  |.indexAddr _ _ _=>⟨false,false,.o D,[]⟩
  |.store _ _ _=>.w
  |.call {callee:=.builtin .append,args:=_,argTypes:=_}=>match Cj ow o.dst with|true=>.p |false=>.w
  |.call {callee:=.builtin .clear,args:=_,argTypes:=_}=>.w
  |.call {callee:=.builtin _,args:=_,argTypes:=_}=>⟨false,false,.o D,[]⟩
  |.call {callee:=.value _,args:=_,argTypes:=_}=>match inL ow o.dst with
   |true=>.w
   |false=>match eC rd (o.dst.getD 1000000) with|true=>⟨false,false,.o D,[]⟩ |false=>.p
  |_=>.p
def ac4:List (Nat×Ky)->Nat->Ky
 |[],_=>.p
 |(i,k)::r,j=>match Nat.beq i j with|true=>k |false=>ac4 r j
def wG (ow rd D:List Nat) (kf:List (Nat×Ky)):Nat->List Oper->List (Oper×Ky)
 |_,[]=>[]
 |i,o::r=>(o,match kf with|[]=>asM ow rd D o |kf=>ac4 kf i)::wG ow rd D kf (i+1) r
theorem ak5 (ow rd D:List Nat) (kf:List (Nat×Ky)): ∀(l:List Oper) (i j:Nat),((wG ow rd D kf i l)[j]?).map (·.1)=l[j]? :=by
 intro l
 induction l with
 |nil=>intro i j;rfl
 |cons o r F=>
  intro i j;cases j with
  |zero=>rfl
  |succ j=>simpa[wG] using F (i+1) j
theorem ak4 (ow rd D:List Nat) (kf:List (Nat×Ky)): ∀(l:List Oper) (i:Nat),(wG ow rd D kf i l).length=l.length:=by
 intro l
 induction l with
 |nil=>intro i;rfl
 |cons o r F=>simp[wG,F]
def RunT {R:Type} (P:Program) (G:List (dh P)) (ow rd:List Nat) (pss:List (Nat×Ps)) (gx:List (Nat×List Gh)) (ops:Array Oper) (KP:Value->aI->Option R):List Oper->Nat->aI->(aI->Option R)->Option R
 |[],_,s,K=>K s
 |o::r,i,s,K=>MI ops o (vj (Uq gx i) s) λb s=>match b with
  |true=>lF P G ow rd pss o s (λv H'=>RunT P G ow rd pss gx ops KP r (i+1) ⟨mV s.sl o.dst v,H'⟩ K) λv H'=>KP v ⟨s.sl,H'⟩
  |false=>RunT P G ow rd pss gx ops KP r (i+1) ⟨mV s.sl o.dst (.fk []),s.hp⟩ K
def news (ow:List Nat) (ops:List Oper):List Nat:=ops.filterMap λo=>match ac2 ow o with|true=>o.dst |false=>none
def exec (P:Program) (n:Nat) (G:List (dh P)) (D:List (Nat×bE)):Code->Nat->(R:Type)->aI->(dr->aI->Option R)->Option R
 |.skip,p=>qL (fO D p) λR s K=>K .normal s
 |.region _ ops draw,p=>qL (fO D p) λR s K=>match F8 n ops.toList.toArray with
  |true=>match draw with
   |true=>TL (ph ops.toList 0 0) λms=>match P.follows .mixedOrders&&calm ops.toList.toArray ms (((wG (fO D p).ow (fO D p).rd (news (fO D p).ow ops.toList) (fO D p).kf 0 ops.toList).zipIdx 0).map λp=>(p.2,p.1.2)) with
    |true=>xo P G (fO D p).ow (fO D p).rd (fO D p).ps ops.toList.toArray ms (wG (fO D p).ow (fO D p).rd (news (fO D p).ow ops.toList) (fO D p).kf 0 ops.toList) 0 none R s (K .normal) λv H=>K (.dK v) ⟨[],H⟩
    |false=>none
   |false=>RunT P G (fO D p).ow (fO D p).rd (fO D p).ps (fO D p).gx ops.toList.toArray (λv s=>K (.dK v) s) ops.toList 0 s (K .normal)
  |false=>none
 |.seq a b,p=>qL (fO D p) λR s K=>exec P n G D a (2*p) R s λe F=>match e with
  |.normal=>exec P n G D b (2*p+1) R F K
  |e=>K e F
 |.cond c a b,p=>qL (fO D p) λR s K=>match bB s.sl c with
  |some (.c (.kb true))=>exec P n G D a (2*p) R s K
  |some (.c (.kb false))=>exec P n G D b (2*p+1) R s K
  |some (.c (.v .bool x))=>cond x (exec P n G D a (2*p) R s K) (exec P n G D b (2*p+1) R s K)
  |_=>none
 |.block id a,p=>qL (fO D p) λR s K=>exec P n G D a (2*p) R s λe F=>match e with
  |.exit i=>match Nat.beq i id with|true=>K .normal F |false=>K (.exit i) F
  |e=>K e F
 |.loop a,p=>qL (fO D p) λR s K=>match(fO D p).loop with
  |none=>none
  |some sh=>(qO sh s).bind (ab λv=>exec P n G D a (2*p) (cv sh⊕R) (mkD sh v) λe F=>match e with
   |.normal=>match qO sh F with|some v=>some (.inl v) |none=>none
   |e=>match K e F with|some r=>some (.inr r) |none=>none)
 |.exit id,p=>qL (fO D p) λR s K=>K (.exit id) s
 |.ret,p=>qL (fO D p) λR s K=>K .ret s
 |_,_=>λ_ _ _=>none
termination_by structural c=>c
def Gb (P:Program) (n:Nat) (c:Code) (body:(R:Type)->aI->(dr->aI->Option R)->Option R):Prop:=
 ∀(R:Type) (s:aI) (K:dr->aI->Option R) (y:R),body R s K=some y-> ∀Q:dr->aI->Prop,(∀e D,K e D=some y->Q e D)->kK P n c Q s
theorem aaO {P:Program} {n:Nat} {c:Code} {body:(R:Type)->aI->(dr->aI->Option R)->Option R} (F:Gb P n c body) (cs:Option (Nat×List UInt8×List Gh)):Gb P n c (M7 cs body):=by
 intro R s K y h Q D;unfold M7 at h;split at h
 · exact F R s K y h Q D
 · rename_i t q gs;split at h
   · rename_i x _;cases J:decide (x=q) with
     |true=>rw[J] at h;exact L6 (AP gs s) (F R _ K y h Q D)
     |false=>rw[J] at h;exact F R s K y h Q D
   · exact F R s K y h Q D
theorem tJ {P:Program} {n:Nat} {c:Code} {body:(R:Type)->aI->(dr->aI->Option R)->Option R} (F:Gb P n c body) (a:bE):Gb P n c (qL a body):=by
 intro R s K y h Q D;unfold qL at h;obtain⟨U,J,h⟩:=RV h;refine L6 (J.trans (AP a.pre U)) ?_;split at h
 · refine abK (aaO F a.cs R _ _ y h (Uo Q) λe O hk=>?_);cases e with
   |normal=>obtain⟨s2,L,hk⟩:=RV hk;exact⟨_,.inr (.inr ⟨λv h=>(nomatch h),L.trans (AP a.post s2)⟩),D _ _ hk⟩
   |_=>exact⟨_,.inl rfl,D _ _ hk⟩
 · obtain⟨o,h1,h2⟩:=at8.1 h;refine abK (aaO F a.cs _ _ _ o h1 (Uo Q) λe O hk=>?_);obtain⟨s2,M,N⟩:=abk (K:=K) hk;rw[N] at h2;exact⟨_,.inr (.inl M),D _ _ h2⟩
theorem S3 {P:Program} {n:Nat} {G:List (dh P)} {ow rd:List Nat} {pss:List (Nat×Ps)} {gx:List (Nat×List Gh)} {R:Type} {y:R} {E:cQ} {K:aI->Option R} {KP:Value->aI->Option R} {Q:dr->aI->Prop} (M: ∀F,K F=some y->Q .normal F) (N: ∀v F,KP v F=some y->Q (.dK v) F) {ops:List Oper} (D:F8 n ops.toArray=true):
  ∀(l:List Oper) (i:Nat) (s:aI) (a:Act) (w:World),(∀j,l[j]? =ops[i+j]?)->gu n E s a w->RunT P G ow rd pss gx ops.toArray KP l i s K=some y->wpOps P ops.toArray (T6 n E Q) (List.range' i l.length) a w
 |[],i,s,a,w,_,J,h=>⟨s,J,M s h⟩
 |o::r,i,s,a,w,hk,J,h=>by
  have h0:ops.toArray[i]? =some o:=by simpa using(hk 0).symm
  have hr: ∀j,r[j]? =ops[i+1+j]? :=λj=>by have:=hk (j+1);grind
  rw[af2,List.range'_succ,wpOps_cons];unfold wpOp;rw[h0];simp only;unfold RunT at h;have J:=(AP (Uq gx i) s).told J;obtain⟨b,s1,h1,e1,Z,hw⟩:=Y2 h;have an:gu n E s1 a w:=by rw[gu,e1,<-Au,Z,Au];omega
  have ar:=an;rw[gu,<-Au] at ar;rw[<-Z] at hw;obtain⟨⟨c,g1,g2⟩,g3,g4⟩:=ar;rw[RM g2 hw];cases b with
  |false=>
   rw[if_neg (by simp)]
   refine S3 M N D r (i+1) _ _ _ hr ?_ h1;have:=Yp (LF D h0) ⟨⟨c,g1,g2⟩,g3,g4⟩;rw[gu,<-Au,AL];exact this
  |true=>
   rw[if_pos rfl];refine .inl ?_;obtain⟨⟨c,q1,U⟩,Y,q4⟩:=an;have ah: ∀x∈o.op.operands,∀d,bB s1.sl x=some d->SR c (aj s1.hp) w (a.eval x) d:=λx _ d D=>acf U D;rcases aqp h1 with⟨v,H',h2,L,O⟩ |⟨pv,H',h2,L,O⟩
   · refine L E c (aj s1.hp) w a _ _ q1 (λ_ _ h=>h) (λk h _=>h) ah λval w' c' g1 g2 g3=>?_;rw[O] at g1 g2 g3;refine S3 M N D r (i+1) ⟨mV s1.sl o.dst v,H'⟩ _ _ hr ⟨⟨c',g1,?_⟩,by rw[LU];exact Y,by rw[put_defers];exact q4⟩ h2
     rw[Fo];exact Mh Y (LF D h0) (λt=>(U t).fL g2) g3
   · refine L E c (aj s1.hp) w a _ _ q1 (λ_ _ h=>h) (λk h _=>h) ah λw' c' g1 g2=>?_;rw[O] at g1 g2;exact⟨⟨s1.sl,H'⟩,pv,rfl,gu.p ⟨⟨c',g1,λt=>(U t).fL g2⟩,Y,q4⟩,N _ _ h2⟩
theorem Tl (P:Program) (n:Nat) (G:List (dh P)) (Z:List (Nat×bE)): ∀(c:Code) (p:Nat),Gb P n c (exec P n G Z c p):=by
 intro c
 induction c with
 |skip=>intro p;unfold exec;exact tJ (λR s K y h Q D E a w J=>wp_skip ⟨s,J,D _ _ h⟩) _
 |region id ops draw=>
  intro p;unfold exec;refine tJ (λR s K y h Q D=>?_) _;split at h<;>try (cases h;done)
  rename_i U;split at h
  · rw[Y4] at h;split at h<;>try (cases h;done)
    rename_i M;rw[ad0] at M;have ah:=F2 (λq=>(q rfl).elim) (λj=>by rw[ak5];simp) h
    exact λE a w J=>arc (n:=n) (E:=E) (σ:=nf s.sl) (h:=aj s.hp) (KP:=λv h=> ∃H,Sub H h/\(∀k,h k≠none->aj H k=none->k<1000)/\K (.dK v) ⟨[],H⟩=some y) _ M.1 (by simp [ak4]) M.2 U
     (λσ h a w h1 ⟨F,e1,e2,e3⟩=>by subst e1;subst e2;exact⟨F,Au.1 h1,D _ _ e3⟩)
     (λv h h' ⟨H,g1,g2,g3⟩ g4 g5=>⟨H,λk o e=>g4 k o (g1 k o e),λk e e'=>by
      cases q:h k with
      |none=>exact g5 k q e
      |some o=>exact g2 k (by grind) e',g3⟩)
     (λv h c a w hC h1 h2 ⟨H,g1,g2,g3⟩=>⟨⟨[],H⟩,v,rfl,⟨⟨c,h,hC,g1,g2,λt=>trivial⟩,h1,h2⟩,D _ _ g3⟩)
     (Au.2 J) (ah.mono (λ_ _ h=>h) λv h ⟨H,e,q⟩=>by subst e;exact⟨H,λ_ _ h=>h,λk h1 h2=>(h1 h2).elim,q⟩)
  · exact λE a w J=>wp_region (by
     have:=S3 (λF O=>D _ _ O) (λv F O=>D _ _ O) U ops.toList 0 s a w (λj=>by rw[Nat.zero_add]) J h
     rw[List.range_eq_range'];simpa using this)
 |seq a b L N=>
  intro p;unfold exec;refine tJ (λR s K y h Q D=>?_) _;refine aq7 (L _ R s _ y h _ λe F hk=>?_);cases e with
  |normal=>exact N _ R F K y hk Q D
  |_=>exact D _ _ hk
 |cond c a b L N=>
  intro p;unfold exec;refine tJ (λR s K y h Q D=>?_) _;split at h<;>try (cases h;done)
  · rename_i he;exact SH ⟨_,he,rfl⟩ (λ_=>L _ R s K y h Q D) λe=>by cases e
  · rename_i he;exact SH ⟨_,he,rfl⟩ (λe=>by cases e) λ_=>N _ R s K y h Q D
  · rename_i x he;refine SH (b:=x) ⟨_,he,rfl⟩ (λe=>?_) λe=>?_
    · subst e;exact L _ R s K y h Q D
    · subst e;exact N _ R s K y h Q D
 |block id a L=>
  intro p;unfold exec;refine tJ (λR s K y h Q D=>?_) _;refine aoe (L _ R s _ y h _ λe F hk=>?_);cases e with
  |exit i=>
   simp at hk;show if i=id then Q .normal F else Q (.exit i) F
   split at hk
   · simp_all
   · rename_i Y;rw[if_neg λe=>by subst e;rw[Nat.beq_refl] at Y;cases Y];exact D _ _ hk
  |_=>exact D _ _ hk
 |loop a L=>
  intro p;unfold exec;refine tJ (λR s K y h Q D=>?_) _;split at h
  · grind
  · rename_i sh av;obtain⟨v,h1,h2⟩:=at8.1 h;refine L6 (tN h1).A9 ?_;obtain⟨m,hm⟩:=mG.1 h2;refine amu m ?_;clear h h2 h1
    induction m generalizing v with
    |zero=>cases hm
    |succ m ih=>
     unfold ie at hm;split at hm
     · rename_i v' ar;refine L _ _ _ _ _ ar _ λe F hk=>?_;cases e with
       |normal=>
        simp at hk;split at hk
        · rename_i v2 h2;simp[Sum.inl.injEq] at hk;subst hk;exact ajl (tN h2).A9 (ih _ hm)
        · cases hk
       |_=>simp at hk;split at hk<;>cases hk
     · rename_i r M;cases hm;refine L _ _ _ _ _ M _ λe F hk=>?_;cases e with
       |normal=>grind
       |_=>
        simp at hk;split at hk
        · rename_i r2 h2;simp[Sum.inr.injEq] at hk;subst hk;exact D _ _ h2
        · cases hk
     · cases hm
 |exit id=>intro p;unfold exec;exact tJ (λR s K y h Q D E a w J=>wp_exit ⟨s,J,D _ _ h⟩) _
 |ret=>intro p;unfold exec;exact tJ (λR s K y h Q D E a w J=>wp_ret ⟨s,J,D _ _ h⟩) _
 |_=>intro p R s K y h;cases h
def acO (P:Program) (H:aG) (x:DS) (ty:TypeId):Option DS:=
 match x with
 |.c (.ptr k 0)=>match aj H k,nB P ty with
  |some (.var D cells),some (true,n)=>if Nat.beq D a0i=false/\n<=cells.length then some (.agg (cells.take n)) else none
  |some (.var D (x::_)),some (false,1)=>if Nat.beq D a0i=false then some (.c x) else none
  |_,_=>none
 |_=>none
def xh (P:Program):List ResultVar->aI->Option cG
 |[],_=>some []
 |.tmp t::r,s=>match xh P r s with|some l=>some ((t,bU s.sl t)::l) |none=>none
 |.cell a ty::r,s=>match acO P s.hp (bU s.sl a) ty,xh P r s with|some v,some l=>some ((3000000+a,v)::l) |_,_=>none
def M0:List Nat->List Nat->Bool
 |[],[]=>true
 |a::t,b::u=>Nat.beq a b&&M0 t u
 |_,_=>false
theorem apc: ∀{l k:List Nat},M0 l k=true->l=k:=by
 intro l
 induction l with
 |nil=>intro k h;cases k with
  |nil=>rfl
  |cons b u=>cases h
 |cons a t D=>intro k h;cases k with
  |nil=>cases h
  |cons b u=>unfold M0 at h;rw[ad0] at h;rw[al2 h.1,D h.2]
def AX (x:Nat) (P:Program) (rs:List ResultVar) (sh:Shape) (s:aI):Option (cv sh):=
 match xh P rs s with
 |some l=>match M0 (l.map (·.1)) (sh.sl.map (·.1))&&nD (l.map (·.1)) with
  |true=>MT x sh ⟨l,s.hp⟩
  |false=>none
 |none=>none
def acY (P:Program) (rs:List ResultVar) (sh:Shape) (s:aI):Option (cv sh):=AX 0 P rs sh s
def Ng (P:Program) (rs:List ResultVar):(a:Bool×Shape)->dr->aI->Option (Ih a)
 |(false,sh),.normal,s=>acY P rs sh s
 |(false,sh),.ret,s=>acY P rs sh s
 |(true,sh),.dK v,s=>match qO sh s with|some x=>some (v,x) |none=>none
 |_,_,_=>none
def Nf (P:Program) (rs:List ResultVar):(l:List (Bool×Shape))->dr->aI->Option (JU l)
 |[],_,_=>none
 |a::[],e,s=>Ng P rs a e s
 |a::b::r,e,s=>match Ng P rs a e s with
  |some v=>some (.inl v)
  |none=>match Nf P rs (b::r) e s with|some v=>some (.inr v) |none=>none
section
variable {P:Program} {c:Cx} {h:Hp} {w:World}
def w8 (a:Act):ResultVar->Sem Value
 |.tmp t=>pure (a.tmps.getD t undef)
 |.cell b t=>do loadVar t (<-asAddr (a.tmps.getD b undef))
theorem abx {E:cQ} {s:aI} {a:Act} (hC:Conc E c h w) (L:Sub s.hp h) (hs: ∀t,SR c h w (a.tmps.getD t undef) (bU s.sl t)): ∀{rs:List ResultVar} {l:cG},xh P rs s=some l->
  ∃vs,(rs.mapM (w8 a)).run P w=.ok vs w/\ay (λv p=>SR c h w v p.2) vs l
 |[],l,e=>by cases e;exact⟨[],by simp,.nil⟩
 |r::rs,l,e=>by
  have key: ∀{v:Value} {k:Nat} {d:DS} {M:cG},xh P rs s=some M->(w8 a r).run P w=.ok v w->SR c h w v d->
    ∃vs,((r::rs).mapM (w8 a)).run P w=.ok vs w/\ay (λv p=>SR c h w v p.2) vs ((k,d)::M):=λ{v k d M} F hr D=>by
   obtain⟨vs,h1,h2⟩:=abx hC L hs F;refine⟨v::vs,?_,.cons D h2⟩;simp_all
  cases r with
  |tmp t=>
   unfold xh at e;split at e<;>try (cases e;done)
   rename_i M F;cases e;exact key F rfl (hs t)
  |cell b ty=>
   unfold xh at e;split at e<;>try (cases e;done)
   rename_i v M D F;cases e;unfold acO at D;split at D<;>try (cases D;done)
   rename_i k hx;have Y:=hs b;rw[hx] at Y;split at D<;>try (cases D;done)
   · rename_i vt cells n J Z;split at D<;>try (cases D;done)
     rename_i hle;obtain⟨h0,hle⟩:=hle;cases D;obtain⟨N,hm,e⟩:=F5 (w:=w) L J Y;obtain⟨z,O,U⟩:=wi (P:=P) Z (b:=N) (o:=0) (i:=0) (by grind) (λj v D=>by rw[Nat.zero_add];exact D) (hC.RP (L _ _ J) hm h0)
     refine key F ?_ U;simp[Instr.loadAt,Instr.sureAddr] at O;simp[w8,e,asAddr];omega
   · rename_i vt x t J Z;split at D<;>try (cases D;done)
     rename_i h0;cases D;obtain⟨N,hm,e⟩:=F5 (w:=w) L J Y;obtain⟨z,O,U⟩:=wi (P:=P) Z (b:=N) (o:=0) (i:=0) (l:=x::t) rfl (λj v D=>by rw[Nat.zero_add];exact D) (hC.RP (L _ _ J) hm h0)
     refine key F ?_ U;simp[Instr.loadAt,Instr.sureAddr] at O;simp[w8,e,asAddr];omega
end
def AZ:cG->List Value->Nat->Value
 |p::l,v::vs,t=>if p.1=t then v else AZ l vs t
 |_,_,_=>undef
theorem L5: ∀{l:cG} {t:Nat},t∉l.map (·.1)->bU l t=.dead
 |[],_,_=>rfl
 |p::l,t,h=>by
  show(if p.1=t then p.2 else bU l t)=_
  rw[if_neg λe=>h (by grind),L5 λe=>h (as3 _ e)]
theorem YT {c:Cx} {h:Hp} {w:World}: ∀{l:cG} {vs:List Value},ay (λv p=>SR c h w v p.2) vs l-> ∀t,SR c h w (AZ l vs t) (bU l t)
 |[],_,_,t=>trivial
 |p::l,_,.cons h1 h2,t=>by
  show SR c h w (if p.1=t then _ else AZ l _ t) (if p.1=t then p.2 else bU l t)
  split
  · omega
  · exact YT h2 t
theorem aaU {S:Value->DS->Prop} (L: ∀v,S v .dead) {α:Type} {T:Value->α->Prop}: ∀{D F:cG} {vs:List Value},D.map (·.1)=F.map (·.1)->nD (D.map (·.1))=true->vs.length=D.length->(∀t,S (AZ D vs t) (bU F t))->ay S vs (F.map (·.2))
 |[],[],[],_,_,_,_=>.nil
 |[],_::_,_,e,_,_,_=>nomatch e
 |_::_,[],_,e,_,_,_=>nomatch e
 |[],[],_::_,_,_,e,_=>nomatch e
 |p::D,q::F,[],_,_,e,_=>nomatch e
 |p::D,q::F,v::vs,e,J,el,h=>by
  simp[List.cons.injEq] at e;simp[nD] at J;have h0:=h p.1;have h0:S (if p.1=p.1 then v else _) (if q.1=p.1 then q.2 else _):=h0
  rw[if_pos rfl,if_pos e.1.symm] at h0;refine .cons h0 (aaU L (T:=T) e.2 J.2 (by grind) λt=>?_)
  by_cases M:p.1=t
  · have:t∉D.map (·.1):=λhm=>by rw[<-M,<-tS,J.1] at hm;cases hm
    rw[L5 (l:=F) (by grind)]
    grind
  · have h2:S (if p.1=t then v else AZ D vs t) (if q.1=t then q.2 else bU F t):=h t
    grind
theorem aql {X:Type} {c:Cx} {h:Hp} {w:World} {u:Value} {s:SS} {v:VS X s} (hp:nX s=true) (hu:SR c h w u (mkS s v).1):UR c h w u (xJ (mkS s v).1):=by
 cases s with
 |fn=>cases hp
 |_=>exact hu
theorem aoQ {X:Type} {c:Cx} {h:Hp} {w:World} {q:List (Nat×SS)} {x:p4 X q} {vs:List Value} (hp:q.all (λp=>nX p.2)=true) (D:ay (SR c h w) vs ((mkSl q x).1.map (·.2))):SR c h w (if h:vs.toArray.size=1 then vs.toArray[0] else .tuple vs.toArray) (sr (mkSl q x).1):=by
 have fk: ∀{q:List (Nat×SS)} {x:p4 X q} {vs:List Value},q.all (λp=>nX p.2)=true->ay (SR c h w) vs ((mkSl q x).1.map (·.2))->ay (UR c h w) vs ((mkSl q x).1.map λp=>xJ p.2):=by
  intro q
  induction q with
  |nil=>intro x vs _ D;cases D;exact .nil
  |cons p q F=>
   intro x vs hp D;simp_all;cases D with
   |cons h1 h2=>exact .cons (aql hp.1 h1) (F hp.2 h2)
 have hlen:=D.len
 match q,x,hp,D with
 |[],x,hp,D=>cases D;exact⟨[],rfl,.nil⟩
 |[p],x,hp,D=>
  have D:=D;cases D with
  |cons h1 h2=>cases h2;exact h1
 |p::J::q,x,hp,D=>
  rw[dif_neg (by simp [mkSl] at hlen⊢;omega)]
  exact⟨vs,rfl,fk hp D⟩
theorem akc {P:Program} {fn:Func} {rs:List ResultVar} {a:Act} {w:World} {vs:List Value} (D:fn.results=rs.toArray) (h1:(rs.mapM (w8 a)).run P w=.ok vs w):
  (results fn a.tmps).run P w=.ok (if h:vs.toArray.size=1 then vs.toArray[0] else .tuple vs.toArray) w:=by
 have e:(λr=>match r with|.tmp t=>pure (a.tmps.getD t undef) |.cell b t=>do loadVar t (<-asAddr (a.tmps.getD b undef)):ResultVar->Sem Value)=w8 a:=by rfl
 unfold results;rw[Array.mapM_eq_mapM_toList];erw [e];simp_all
def UJ (x:Nat) (P:Program) (rs:List ResultVar) (s:aI) (r:DS) (H1:aG):Prop:=
 ∀n E a w,E.H x=none->A8 n E s a w-> ∃v,(∀fn:Func,fn.results=rs.toArray->(results fn a.tmps).run P w=.ok v w)/\ ∃c',Conc E c' (aj H1) w/\SR c' (aj H1) w v r
theorem S4 {q:Nat} {P:Program} {rs:List ResultVar} {sh:Shape} {s:aI} {x:cv sh} (hp:sh.sl.all (λp=>nX p.2)=true) (h:AX q P rs sh s=some x):UJ q P rs s (sr (mkD sh x).sl) (mkD sh x).hp:=by
 unfold AX at h;split at h<;>try (cases h;done)
 rename_i l N;split at h<;>try (cases h;done)
 rename_i hk;rw[ad0] at hk;obtain⟨hk,O⟩:=hk;have hk:=apc hk;rintro n E a w Y ⟨⟨c,h0,hC,D,hex,L⟩,hn,hd⟩;obtain⟨vs,Z,F⟩:=abx hC D L N;obtain⟨c',J,M⟩:=ZM h E c h0 w (AZ l vs) Y hC D hex (YT F);exact⟨_,λfn U=>akc U Z,c',J,aoQ hp (aaU (T:=λ_ _=>True) (α:=Unit) (λ_=>trivial) (hk.trans (mkSl_keys sh.sl x).symm) O F.len M)⟩
def Uh (P:Program) (rs:List ResultVar) (o:Ch):dr->aI->Prop
 |.exit _,_=>False
 |.dK v,s=> ∃D,o=.dK v D.hp/\so s D
 |_,s=> ∃r H1,o=.ret r H1/\UJ 0 P rs s r H1
theorem aa2 {P:Program} {rs:List ResultVar} {a:Bool×Shape} {e:dr} {s:aI} {o:Ih a} (hp:a.2.sl.all (λp=>nX p.2)=true) (h:Ng P rs a e s=some o):Uh P rs (T3 a o) e s:=by
 unfold Ng at h;split at h
 · exact⟨_,_,rfl,S4 hp h⟩
 · exact⟨_,_,rfl,S4 hp h⟩
 · split at h<;>try (cases h;done)
   rename_i x D;cases h;exact⟨mkD _ x,rfl,tN D⟩
 · grind
theorem aa1 {P:Program} {rs:List ResultVar}: ∀{l:List (Bool×Shape)} {e:dr} {s:aI} {o:JU l},(∀a∈l,a.2.sl.all (λp=>nX p.2)=true)->Nf P rs l e s=some o->Uh P rs (mQ l o) e s
 |[],_,_,_,_,h=>by cases h
 |a::[],_,_,_,hp,h=>aa2 (hp a am5) h
 |a::b::r,e,s,o,hp,h=>by
  unfold Nf at h;split at h
  · rename_i v D;cases h;exact aa2 (hp a am5) D
  · split at h<;>try (cases h;done)
    rename_i v D;cases h;exact aa1 (l:=b::r) (λa F=>hp a (as3 _ F)) D
theorem aa3 {aF:Shape} {x:cv aF} (hk:od 0 aF.sl=true) {c:Cx} {w:World} {vals:List Value} (hC:Conc (dW w c (aj (mkD aF x).hp)) c (aj (mkD aF x).hp) w) (N:ay (SR c (aj (mkD aF x).hp) w) vals ((mkD aF x).sl.map (·.2))) (m:Nat):
  gu (aF.sl.length+(m - aF.sl.length)) (dW w c (aj (mkD aF x).hp)) (mkD aF x) {tmps:=vals.toArray++Array.replicate (m - vals.toArray.size) undef,defers:=[]} w:=by
 have F:(mkD aF x).sl.map (·.1)=aF.sl.map (·.1):=mkSl_keys aF.sl x
 have hlen:(mkD aF x).sl.length=aF.sl.length:=by have:=congrArg List.length F;grind
 have Y:vals.length=aF.sl.length:=by rw[N.len,List.length_map,hlen]
 refine⟨⟨c,hC,λt=>?_⟩,by simp [Y],rfl⟩
 by_cases U:t<(mkD aF x).sl.length
 · have J:=Sk (k:=0) hk F (ae6 U);rw[Nat.zero_add] at J;rw[J];obtain⟨u,L,O⟩:=N.get (i:=t) (y:=((mkD aF x).sl[t]).2) (by grind)
   have M:t<vals.length:=by omega
   rw[ae6 M] at L;have:(vals.toArray++Array.replicate (m - vals.toArray.size) undef).getD t undef=u:=by simp [Array.getElem?_append,M,L]
   rw[this];exact O
 · rw[L5]
   · trivial
   · rw[F]
     have: ∀{q:List (Nat×SS)} {k:Nat},od k q=true-> ∀j∈q.map (·.1),j<k+q.length:=by
      intro q
      induction q with
      |nil=>grind
      |cons p q Z=>
       intro k hk j D;unfold od at hk;rw[ad0] at hk;rw[List.map_cons,List.mem_cons] at D;rcases D with D |D
       · simp_all
       · have:=Z hk.2 j D;simp[af2];omega
     intro hm;have:=this hk t hm;omega
theorem asL {P:Program} {f:FuncId} {fn:Func} {code:Code} {rs:List ResultVar} {aF:Shape} {x:cv aF} {o:Ch} (hf:P.funcs[f]? =some fn) (M:fn.body=some code) (N:fn.results=rs.toArray) (hk:od 0 aF.sl=true) (h:kK P (aF.sl.length+(fn.ntmps - aF.sl.length)) code (Uh P rs o) (mkD aF x)):fo P f ((mkD aF x).sl.map (·.2)) (mkD aF x).hp o:=by
 intro c w vals hC U;refine calls_of_wp hf M ?_;refine Code.wp_mono (λe J w' F=>?_) (h (dW w c (aj (mkD aF x).hp)) _ w (aa3 hk hC U fn.ntmps));have fin: ∀{D},gu (aF.sl.length+(fn.ntmps - aF.sl.length)) (dW w c (aj (mkD aF x).hp)) D J w'->(∃r H1,o=.ret r H1/\UJ 0 P rs D r H1)->J.defers=[]/\ ∃v,(results fn J.tmps).run P w'=.ok v w'/\ ∃c',ve (dW w c (aj (mkD aF x).hp)) (.returned v) c' w' o:=λL ⟨r,H1,e,O⟩=>by obtain⟨v,g1,c',g2,g3⟩:=O _ _ _ _ rfl L.p;subst e;exact⟨L.2.2,v,g1 fn N,c',v,rfl,g2,g3⟩
 cases e<;>first |exact F.elim |skip
 · obtain⟨D,h1,h2⟩:=F;exact fin h1 h2
 · obtain⟨D,h1,h2⟩:=F;exact h2.elim
 · obtain⟨D,h1,h2⟩:=F;exact fin h1 h2
 · obtain⟨D,v,rfl,h1,s2,rfl,h2⟩:=F;obtain⟨⟨c',g1,_⟩,_,g2⟩:=h2.told h1;exact⟨g2,c',rfl,g1⟩
noncomputable def A7 (P:Program) (G:List (dh P)) (D:List (Nat×bE)) (f:FuncId) (aF:Shape) (outs:List (Bool×Shape)) {A:Type} (g:JU outs->A) (x:cv aF):Option A:=
 match P.funcs[f]? with
 |some fn=>match fn.body with
  |some code=>match od 0 aF.sl with
   |true=>exec P (aF.sl.length+(fn.ntmps - aF.sl.length)) G D code 1 A (mkD aF x) λe s=>match Nf P fn.results.toList outs e s with|some o=>some (g o) |none=>none
   |false=>none
  |none=>none
 |none=>none
theorem aaQ {P:Program} {G:List (dh P)} {F:List (Nat×bE)} {f:FuncId} {aF:Shape} {outs:List (Bool×Shape)} (fm:pB aF outs=true) {A:Type} {g:JU outs->A} {h:A->JU outs} (L: ∀o,h (g o)=o) {x:cv aF} {y:A} (D:A7 P G F f aF outs g x=some y):fo P f ((mkD aF x).sl.map (·.2)) (mkD aF x).hp (mQ outs (h y)):=by
 unfold A7 at D;split at D<;>try (cases D;done)
 rename_i fn hf;split at D<;>try (cases D;done)
 rename_i code hc;split at D<;>try (cases D;done)
 rename_i hk;refine asL (rs:=fn.results.toList) hf hc rfl hk (Tl P _ G F code 1 _ _ _ y D _ λe N hk=>?_);split at hk<;>try (cases hk;done)
 rename_i o M;cases hk;rw[L];unfold pB at fm;rw[ad0] at fm;exact aa1 (λa J=>by have:=ao3.1 fm.2 a J;rw[ad0] at this;exact this.2) M
def mkF {P:Program} (G:List (dh P)) (D:List (Nat×bE)) (f:FuncId) (aF:Shape) (outs:List (Bool×Shape)) {A:Type} (g:JU outs->A) (h:A->JU outs) (L: ∀o,h (g o)=o) (F:cv aF->Option A) (fm:pB aF outs=true) (J: ∀x,A7 P G D f aF outs g x=F x):dh P:=
 ⟨f,aF,outs,λR x k=>(F x).bind λr=>k (h r),fm,λR x k y M=>by obtain⟨r,h1,h2⟩:=at8.1 M;exact⟨h r,h2,aaQ fm L (by rw[J];exact h1)⟩⟩
theorem wrap_i64 {n:Int} (h: -9223372036854775808<=n/\n<=9223372036854775807):IntKind.i64.wrap n=n:=by unfold IntKind.wrap;simp [IntKind.bits,IntKind.signed];omega
theorem wrap_u32 {n:Int} (h:0<=n/\n<=4294967295):IntKind.u32.wrap n=n:=by unfold IntKind.wrap;simp [IntKind.bits,IntKind.signed];omega
theorem wrap_u64 {n:Int} (h:0<=n/\n<=18446744073709551615):IntKind.u64.wrap n=n:=by unfold IntKind.wrap;simp [IntKind.bits,IntKind.signed];omega
theorem aap {α:Type} (l:List α) (k:Nat):ag l (k:Int)=l[k]? :=rfl
theorem abp {α:Type} {l:List α} {k:Nat} (h:k<l.length):ag l (k:Int)=some l[k]:=by rw[aap,ae6 h]
theorem aqH {n:Nat} (h:n<=4611686018427387904):aa .i64 (n:Int):=by rw[Ti];omega
theorem aZ {V R:Type} {f:V->Option (V⊕R)} {v v':V} (h:f v=some (.inl v')):ab f v=ab f v':=by rw[bJ,h]
theorem bk {V R:Type} {f:V->Option (V⊕R)} {v:V} {r:R} (h:f v=some (.inr r)):ab f v=some r:=by rw[bJ,h]
theorem K0:(∀{α β:Type} (a:α) (f:α->Option β),(some a).bind f=f a)/\(∀{α:Type} (a b:α),(bif true then a else b)=a)/\(∀{α:Type} (a b:α),(bif false then a else b)=b)/\
   (!true)=false/\(!false)=true/\(∀b,(true&&b)=b)/\(∀b,(false&&b)=false)/\(∀b,(b&&true)=b)/\(∀b,(b&&false)=false)/\(∀b,(true||b)=true)/\(∀b,(false||b)=b)/\(∀b,(b||true)=true)/\(∀b,(b||false)=b)/\
   (∀{p:Prop} (i:Decidable p),p-> @decide p i=true)/\(∀{p:Prop} (i:Decidable p),¬p-> @decide p i=false)/\
   (∀{α:Type} {p:Prop} (i:Decidable p) (a b:α),p->(if p then a else b)=a)/\(∀{α:Type} {p:Prop} (i:Decidable p) (a b:α),¬p->(if p then a else b)=b)/\
   (∀{c:Prop} (i:Decidable c) {R:Type} (k:Option R),c->J c k=k)/\(∀n:Int,aa .i64 n=(-9223372036854775808<=n/\n<=9223372036854775807))/\
   (∀{α R:Type} (l:List α) (k:Nat) (f:α->Option R) (h:k<l.length),(ag l (k:Int)).bind f=f l[k])/\(∀{α R:Type} (l:List α) (f:α->Option R) (h:0<l.length),(ag l 0).bind f=f l[0])/\
   (∀{α R:Type} (l:List α) (k:Nat) (f:α->Option R) (h:k<l.length),(l[k]?).bind f=f l[k])/\
   (∀n:Nat,(n:Int).toNat=n)/\(∀k:Nat,(k:Int)+1=((k+1:Nat):Int))/\(∀{α:Type} (a:α) (l:List α),(a::l).length=l.length+1)/\(∀{α:Type},([]:List α).length=0)/\(∀i:Int,(i<i)=False)/\(false=true)=False/\(¬False)=True:=
 ⟨λ_ _=>rfl,λ_ _=>rfl,λ_ _=>rfl,rfl,rfl,λ_=>rfl,λ_=>rfl,Bool.and_true,Bool.and_false,λ_=>rfl,λ_=>rfl,Bool.or_true,Bool.or_false,
  λ_ h=>decide_eq_true h,λ_ h=>decide_eq_false h,λ_ _ _ h=>if_pos h,λ_ _ _ h=>if_neg h,λ_ _ _ h=>if_pos h,Ti,
  λ_ _ _ h=>by rw[abp h];rfl,λl _ h=>by rw[show ag l 0=some l[0] from abp (k:=0) h];rfl,λ_ _ _ h=>by rw[ae6 h];rfl,
  Int.toNat_natCast,λ_=>rfl,λ_ _=>rfl,rfl,λi=>by simp,by simp,by simp⟩
end
end Go.Proofs.YtejhifnjgoclpaaGreatDoor.Fx
