/- Parts of the proofs, put together by a program. -/
import Derived.Test.YtejhifnjgoclpaaGreatDoorK2
import Derived.PlainAid
import Derived.Test.YtejhifnjgoclpaaGreatDoorRows
import Derived.Outline
import Derived.Below
import Derived.Handy
import Derived.WalkLawsBesides
import Derived.WalkSpells
import Derived.Deep.QuietTactic
import Derived.BigQuiet
import Derived.Deep.RegionHeld3
import Derived.Laws.Externs
import Derived.Laws.ShiftsVar
import Derived.Laws.BytesArg
import Derived.Laws.FloatBits
import Derived.Laws.Cover2
import Derived.Test.YtejhifnjgoclpaaGreatDoorProg
import Derived.OwnWalk
import Derived.Lib.Bytealg
import Derived.Shelf.Strings.SlTrimAscii
import Derived.Shelf.Strings.Split
import Derived.Laws.CopyRow
import Derived.Deep.RegionLaw
import Derived.Shelf.SlSortCmp.NoneTotal
import Derived.Shelf.Slices.Clone
import Derived.Shelf.Slices.CompactI
import Derived.Shelf.Slices.Cells
import Derived.Shelf.Strings.Builder1
import Derived.Shelf.LaysM
import Derived.Shelf.Strconv.Itoa3
import Derived.Lib.OwnBridge
import Derived.Lib.RowBridge
import Derived.Lib.SlicesCompact
import Derived.Conc.MuLone
import Derived.Defers
import Derived.Recover
import Derived.Laws.Pointers
set_option linter.unusedVariables false
set_option linter.unusedSimpArgs false
open Go.Proofs.Tryz renaming prog->at1
open Nat renaming le_refl->at9,zero_le->au2,beq->au9,eq_of_beq_eq_true->aw6,le_trans->aw8,zero_add->ax2,mul_le_mul_right->az8,mul_comm->aB5,add_comm->aB6,pow_succ->aC0
open Bool renaming and_eq_true->au0,false_eq_true->av7,not_eq_true'->ay6,or_eq_true->az0,true_and->az4,false_and->aA6,eq_iff_iff->aB9,and_true->aD4
open List renaming length_map->au1,getElem?_eq_getElem->au4,length_append->au5,length_cons->av1,replicate->av5,drop_eq_getElem_cons->av6,mem_singleton->aw0,mem_cons->aw2,mem_cons_self->aw4,all_eq_true->ax0,mem_cons_of_mem->ax5,take_length->ax6,drop_zero->ax7,length_drop->ay3,all_cons->ay4,length_pos_iff->ay5,getElem?_eq_some_iff->ay9,not_mem_nil->az1,drop_eq_nil_of_le->az3,map_map->aA1,range->aA2,take_left->aB2,take_of_length_le->aB8,getElem?_take_of_lt->aF0,size_toArray->aF5,getElem?_drop->aG7
open Go.Lib renaming hid->au3
open Int renaming toNat_natCast->av0,toNat_of_nonneg->aA7,toNat->aB1
open Go.IntKind renaming wrap->av4,bits->av9
open Option renaming bind_eq_some_iff->ay0
open Array renaming replicate->aF7,toArray_toList->aH0
namespace Go.Proofs.YtejhifnjgoclpaaGreatDoor.Fx
open Go.RowKit
set_option maxRecDepth 1000000
noncomputable section
section
variable {V R:Type}
def jD:Nat->(V->Option (V⊕R))->V->Option R
 |0,_,_=>none
 |n+1,f,v=>match f v with
  |some (.inl v')=>jD n f v'
  |some (.inr r)=>some r
  |none=>none
theorem Ro{f:V->Option (V⊕R)}:∀{n:Nat} {v:V} {r:R},jD n f v=some r->∀m,n<=m->jD m f v=some r:=by
 intro n
 induction n with
 |zero=>simp[jD]
 |succ n D=>
  intro v r h m hm;cases m with
  |zero=>omega
  |succ m=>grind[jD]
def MY:Nat->(V->Option (V⊕R))->V->Option (Option R)
 |0,_,_=>none
 |n+1,f,v=>match f v with
  |some (.inl v')=>MY n f v'
  |some (.inr r)=>some (some r)
  |none=>some none
theorem YL{f:V->Option (V⊕R)}{o:Option R}:∀{n:Nat} {v:V},MY n f v=some o->∀m,n<=m->jD m f v=o:=by
 intro n
 induction n with
 |zero=>intro v h;cases h
 |succ n D=>
  intro v h m hm;cases m with
  |zero=>omega
  |succ m=>grind[MY,jD]
open Classical in
noncomputable def ae (f:V->Option (V⊕R)) (v:V):Option R:=match MY 1000000 f v with
 |some o=>o
 |none=>if h:∃r n,jD n f v=some r then some (Classical.choose h)else none
theorem o5{f:V->Option (V⊕R)}{v:V}{r:R}:ae f v=some r<->∃n,jD n f v=some r:=by
 unfold ae;split
 ·rename_i o F;refine⟨λh=>⟨_,(YL F _ (at9 _)).trans h⟩,?_⟩;rintro⟨n,D⟩;rw[<-YL F _ (Nat.le_max_left 1000000 n)];exact Ro D _ (Nat.le_max_right _ _)
 constructor
 ·intro h;split at h
  ·grind
  ·grind
 ·rintro⟨n,D⟩;have J:∃r n,jD n f v=some r:=⟨r,n,D⟩;rw[dif_pos J];obtain⟨m,hm⟩:=Classical.choose_spec J;have h1:=Ro D (max n m) (by omega)
  have h2:=Ro hm (max n m) (by omega)
  grind
theorem bI(f:V->Option (V⊕R))(v:V):ae f v=match f v with|some (.inl v')=>ae f v'|some (.inr r)=>some r|none=>none:=by
 cases e:f v with
 |none=>
  cases h:ae f v with
  |none=>rfl
  |some r=>
   obtain⟨n,D⟩:=o5.1 h;cases n with
   |zero=>cases D
   |succ n=>simp_all[jD]
 |some x=>
  cases x with
  |inr r=>exact o5.2 ⟨1,by unfold jD;rw[e]⟩
  |inl v'=>
   cases h:ae f v' with
   |some r=>obtain⟨n,D⟩:=o5.1 h;show ae f v=ae f v';rw[h];exact o5.2 ⟨n+1,by show(match f v with|some (.inl v')=>jD n f v'|some (.inr r)=>some r|none=>none)=some r;rw[e];exact D⟩
   |none=>
    cases h2:ae f v with
    |none=>grind
    |some r=>
     obtain⟨n,D⟩:=o5.1 h2;cases n with
     |zero=>cases D
     |succ n=>unfold jD at D;rw[e]at D;have:ae f v'=some r:=o5.2 ⟨n,D⟩;grind
end
section
variable {R:Type}
def adA(ow:List Nat)(pss:List (Nat×Ps))(d:Option Tmp):Bool:=inL ow d|| !(Gi pss d).isEmpty
def jO(P:Program)(G:List (cM P))(ow rd:List Nat)(pss:List (Nat×Ps))(o:Oper)(s:aF)(K:DS->ax->Option R)(KP:Value->ax->Option R):Option R:=
 match o.op with
 |.call {callee:=.value y,args:=xs,argTypes:=_}=>match Nv s.sl y with
  |some (f,a,b)=>match M8 s.sl a xs.toList b with
   |some l=>mw P f l (adA ow pss o.dst) (dq rd (o.dst.getD 1000000)) (Gi pss o.dst) s.hp K KP G
   |none=>none
  |none=>none
 |.panic x=>match bq s.sl x with
  |some (.c (.v .val x))=>KP (.iface x.1 x.2) s.hp
  |_=>none
 |op=>xV P s (B7 ow o.dst) (dq rd (o.dst.getD 1000000)) o.dst op K
def My(ow rd:List Nat)(pss:List (Nat×Ps))(o:Oper):Bool:=
 match o.op with
 |.call {callee:=.value _,args:=_,argTypes:=_}=>(dq rd (o.dst.getD 1000000)&& !adA ow pss o.dst)||(Gi pss o.dst).isEmpty
 |.call {callee:=.builtin .append,args:=_,argTypes:=_}=>B7 ow o.dst
 |.call {callee:=.builtin .clear,args:=_,argTypes:=_}=>false
 |.buildSlice _ _ _=> !B7 ow o.dst
 |.alloc _=>false
 |.box _ _=>false
 |.store _ _ _=>false
 |.makeSlice _ _ _=>false
 |.range _ _=>false
 |.next _ _=>false
 |.slice _ _ _ none _=>true
 |.slice _ _ _ (some _) _=>false
 |_=>true
def MC(ops:Array Oper)(o:Oper)(s:aF)(k:Bool->aF->Option R):Option R:=
 match o.guard with
 |none=>k true s
 |some (j,want)=>
  match(ops[j]?).bind (·.dst)with
  |none=>k false s
  |some d=>
   match bM s.sl d with
   |.c (.kb b)=>k (b==want) s
   |.c (.v .bool x)=>cond x (k (true==want) ⟨oB s.sl d (.c (.kb true)),s.hp⟩) (k (false==want) ⟨oB s.sl d (.c (.kb false)),s.hp⟩)
   |.eR []=>k false s
   |_=>none
end
section
variable {R:Type} {y:R} {P:Program} {G:List (cM P)} {ow rd:List Nat} {pss:List (Nat×Ps)} {o:Oper} {s:aF}
theorem Mz{K:DS->ax->Option R}{KP:Value->ax->Option R}(h:jO P G ow rd pss o s K KP=some y):(∃v H',K v H'=some y/\St P o s.sl s.hp v H')\/∃F H',KP F H'=some y/\Ie P o s.sl s.hp F H':=by
 obtain⟨dst,op,ty,pos,af,gd⟩:=o;unfold jO at h;split at h
 ·rename_i U xs ats he;have he:=he;subst he;split at h<;>try (cases h;done)
  rename_i f a b M;split at h<;>try (cases h;done)
  rename_i l J;have:=SK (dst:=dst) (ty0:=ty) (pos:=pos) (af:=af) (gd:=gd) (ats:=ats) M J h;omega
 ·rename_i x e;have e:=e;subst e;split at h<;>try (cases h;done)
  rename_i z O;refine .inr ⟨_,_,h,λE c h w a N Q hC hs _ L D=>?_⟩;have e:_=a.eval x:=(L x (by simp [Op.operands]) _ O).2
  rw[bu.self hs]at D;unfold Oper.wp;simp[execOp,<-e];exact D w c hC (eN.refl _ _ _)
 ·exact .inl (ar8 h)
theorem Yn{f:FuncId}{l:List DS}{ow rd:Bool}{ps:Ps}{H:ax}(D:(rd&& !ow||ps.isEmpty)=true)(K:DS->ax->Option R)(KP:Value->ax->Option R):∀G:List (cM P),mw P f l ow rd ps H K KP G=mw P f l ow rd ps H (λv _=>K v H) KP G
 |[]=>rfl
 |g::r=>by
  unfold mw;rw[Yn D K KP r];rw[az0]at D;split
  ·rfl
  ·split
   ·rfl
   ·rcases D with D|D
    ·rw[D]
    ·cases ps with
     |nil=>rfl
     |cons=>grind
theorem an2(D:My ow rd pss o=true)(K:DS->ax->Option R)(KP:Value->ax->Option R):jO P G ow rd pss o s K KP=jO P G ow rd pss o s (λv _=>K v s.hp) KP:=by
 obtain⟨dst,op,ty,pos,af,gd⟩:=o;unfold jO;dsimp only;split
 ·split
  ·split
   ·exact Yn D _ _ _
   ·rfl
  ·rfl
 ·rfl
 ·unfold My at D;dsimp only at D;generalize B7 ow dst=b at D⊢;generalize dq rd (dst.getD 1000000)=L;unfold xV;split<;>first|rfl|(cases D;done)|skip
  ·rename_i ty x J F _ _;cases F with
   |some F=>cases D
   |none=>
    have key:∀v l,wS P s.hp ty v l none K=wS P s.hp ty v l none λv _=>K v s.hp:=λv l=>by
     unfold wS
     repeat' (first|rfl|contradiction|split)
    cases bq s.sl x with
    |none=>rfl
    |some v=>cases ya s.sl J with
     |none=>rfl
     |some l=>exact key v l
  ·cases b with
   |true=>cases D
   |false=>repeat' (first|rfl|split)
  ·have D:=D;subst D
   have key:∀ty v u,wQ P s.hp true dst ty v u K=wQ P s.hp true dst ty v u λv _=>K v s.hp:=λty v u=>by
    unfold wQ
    repeat' (first|rfl|contradiction|split)
   simp[key]
theorem an1{K:DS->Option R}{KP:Value->ax->Option R}(F:My ow rd pss o=true)(h:jO P G ow rd pss o s (λv _=>K v) KP=some y):(∃v,K v=some y/\St P o s.sl s.hp v s.hp)\/∃D H',KP D H'=some y:=by
 classical
 have e:jO P G ow rd pss o s (λv H'=>if H'=s.hp then K v else none) KP=some y:=by rw[an2 F];grind
 rcases Mz e with⟨v,H',h1,h2⟩|⟨D,H',h1,h2⟩
 ·grind
 ·grind
end
section
variable {R:Type}
def yi(H H':ax):Prop:= ∀k,aj H' k=none->aj H k=none
theorem yi.set{H A:ax}(h:yi H A)(k:Nat)(o:aR):yi H (oset A k o):=λq e=>by
 rw[ij]at e;by_cases D:q=k
 ·grind[fh]
 ·rw[gP D]at e;exact h q e
theorem aa6{ps:Ps}{H H1:ax}:∀{l:Ps} {A:ax},qR ps H H1 l=some A->yi H A
 |[],A,h=>by cases h;exact λ_ h=>h
 |(j,k)::r,A,h=>by
  unfold qR at h;split at h<;>try (cases h;done)
  split at h<;>try (cases h;done)
  cases h;exact(aa6 (by omega)).set _ _
open Classical in
def qL {α:Type} (H:ax) (K:α->ax->Option R):α->ax->Option R:=λv H'=>if yi H H' then K v H' else none
theorem RJ{α:Type}(H:ax)(K:α->ax->Option R)(v:α):qL H K v H=K v H:=if_pos λ_ h=>h
theorem apR{α:Type}(H:ax)(K:α->ax->Option R)(v:α)(k:Nat)(o:aR):qL H K v (oset H k o)=K v (oset H k o):=if_pos (yi.set (λ_ h=>h) k o)
theorem YV{P:Program}{f:FuncId}{l:List DS}{ow rd:Bool}{ps:Ps}{H:ax}(K:DS->ax->Option R)(KP:Value->ax->Option R):∀G:List (cM P),mw P f l ow rd ps H (qL H K) (qL H KP) G=mw P f l ow rd ps H K KP G
 |[]=>rfl
 |g::r=>by
  have D:∀{α:Type} H1 v (K:α->ax->Option R),qQ ps H H1 (qL H K v)=qQ ps H H1 (K v):=λH1 v K=>by
   unfold qQ;split
   ·rename_i A hA;exact if_pos (aa6 hA)
   ·rfl
  unfold mw;simp[YV K KP r,RJ,D]
theorem apy{P:Program}{G:List (cM P)}{ow rd:List Nat}{pss:List (Nat×Ps)}{o:Oper}{s:aF}(K:DS->ax->Option R)(KP:Value->ax->Option R):jO P G ow rd pss o s (qL s.hp K) (qL s.hp KP)=jO P G ow rd pss o s K KP:=by
 unfold jO;simp[YV,RJ];have:∀b D dst op,xV P s b D dst op (qL s.hp K)=xV P s b D dst op K:=λb D dst op=>by unfold xV wQ wS Ms MI Mc Mw MU;simp only[RJ,apR]
 grind
theorem aq5{y:R}{P:Program}{G:List (cM P)}{ow rd:List Nat}{pss:List (Nat×Ps)}{o:Oper}{s:aF}{K:DS->ax->Option R}{KP:Value->ax->Option R}(h:jO P G ow rd pss o s K KP=some y):(∃v H',K v H'=some y/\St P o s.sl s.hp v H'/\bu (aj s.hp) (aj H')=aj H')\/∃D H',KP D H'=some y/\Ie P o s.sl s.hp D H'/\bu (aj s.hp) (aj H')=aj H':=by
 have key:∀{H H':ax},yi H H'->bu (aj H) (aj H')=aj H':=λ{H H'} hc=>by
  funext k;unfold bu;cases e:aj H' k with
  |none=>exact hc k e
  |some o=>rfl
 rw[<-apy]at h;rcases Mz h with⟨v,H',h1,h2⟩|⟨D,H',h1,h2⟩
 ·grind[qL]
 ·grind[qL]
end
def nf(sl:cG):SF:=λt=>iW (bM sl t)
theorem Az(sl:cG)(d:Option Tmp)(v:DS):nf (nr sl d v)=iA (nf sl) d (iW v):=by
 funext t;unfold nf;rw[Fc];cases d with
 |none=>rfl
 |some d=>
  show iW (bK (bM sl) d v t)=bK (nf sl) d (iW v) t;by_cases e:t=d
  ·grind[fh]
  ·rw[gP e,gP e];rfl
theorem Zz{R:Type}{y:R}{ops:Array Oper}{o:Oper}{s:aF}{K:Bool->aF->Option R}(h:MC ops o s K=some y):∃b s1,K b s1=some y/\s1.hp=s.hp/\nf s1.sl=nf s.sl/\qI ops (nf s.sl) o=some b:=by
 unfold MC at h;unfold qI;split at h
 ·grind
 ·rename_i j want M;rw[M];simp only;split at h
  ·grind
  ·rename_i d L;rw[L];simp only
   have J:∀b,iW (bM s.sl d)=.c (.v .bool b)->nf (oB s.sl d (.c (.kb b)))=nf s.sl:=λb e=>by
    have:=Az s.sl (some d) (.c (.kb b));refine this.trans ?_;funext t;show bK _ d _ t=_;by_cases F:t=d
    ·subst F;rw[fh];exact e.symm
    ·rw[gP F]
   split at h<;>try (cases h;done)
   ·rename_i b D;exact⟨_,s,h,rfl,rfl,by unfold nf;rw[D];rfl⟩
   ·rename_i x D;have hw:nf s.sl d=.c (.v .bool x):=by unfold nf;rw[D];rfl
    rw[hw];cases x with
    |true=>exact⟨_,_,h,rfl,J true hw,rfl⟩
    |false=>exact⟨_,_,h,rfl,J false hw,rfl⟩
   ·rename_i D;exact⟨false,s,h,rfl,rfl,by unfold nf;rw[D];rfl⟩
def jH(S:KS)(H:ax):ax:=H.filter λp=>S.has p.1
theorem LM(S:KS):∀(H:ax) (k:Nat),aj (jH S H) k=if S.has k=true then aj H k else none
 |[],k=>by unfold jH;simp [aj]
 |(q,o)::H,k=>by
  have D:=LM S H k;unfold jH at D⊢;rw[List.filter_cons];by_cases e:q=k
  ·subst e;by_cases J:S.has q=true
   ·simp_all[aj]
   ·grind
  ·have F:aj ((q,o)::H) k=aj H k:=by show(if q=k then _ else _)=_;rw[if_neg e]
   rw[F,<-D];split
   ·show(if q=k then _ else _)=_;grind
   ·rfl
def HF(H:ax):ax->ax
 |[]=>H
 |p::r=>oset (HF H r) p.1 p.2
theorem Sn(H:ax):∀H':ax,aj (HF H H')=bu (aj H) (aj H')
 |[]=>rfl
 |(q,o)::r=>by
  funext k;show aj (oset (HF H r) q o) k=_;rw[ij,Sn H r];unfold bu;show bK _ q _ k=(if q=k then some o else aj r k).or _
  by_cases e:q=k
  ·grind[fh]
  ·rw[gP (Ne.symm e),if_neg e]
section
variable {R:Type}
def Uy(κ:Ky)(pss:List (Nat×Ps))(o:Oper):Bool:=
 match o.op with
 |.call {callee:=.value _,args:=_,argTypes:=_}=>(js (Gi pss o.dst)).all λp=> !dq κ.R p.2
 |_=>κ.R.isEmpty
theorem YW{ps:Ps}{H H1:ax}{L:List Nat}:∀{l:Ps} {A:ax},qR ps H H1 l=some A->(l.all λp=> !dq L p.2)=true->∀k,dq L k=true->aj A k=aj H k
 |[],A,h,_=>by cases h;grind
 |(j,k)::r,A,h,D=>by
  rw[ay4,au0]at D;unfold qR at h;split at h<;>try (cases h;done)
  split at h<;>try (cases h;done)
  cases h;intro q J;have F:q≠k:=λe=>by have:=D.1;grind
  rw[ij,gP F];exact YW (by omega) D.2 q J
open Classical in
def sC {α:Type} {R:Type} (L:List Nat) (H:ax) (K:α->ax->Option R):α->ax->Option R:=λv H'=>if∀k,dq L k=true->aj H' k=aj H k then K v H' else none
theorem am7{α R:Type}(L:List Nat)(H:ax)(K:α->ax->Option R)(v:α):sC L H K v H=K v H:=if_pos λ_ _=>rfl
theorem aoQ{α R:Type}(H:ax)(K:α->ax->Option R):sC [] H K=K:=funext λv=>funext λH'=>if_pos λk e=>by cases e
theorem YU{R:Type}{P:Program}{f:FuncId}{l:List DS}{ow rd:Bool}{ps:Ps}{H:ax}{L:List Nat}(D:((js ps).all λp=> !dq L p.2)=true)(K:DS->ax->Option R)(KP:Value->ax->Option R):∀G:List (cM P),mw P f l ow rd ps H (sC L H K) (sC L H KP) G=mw P f l ow rd ps H K KP G
 |[]=>rfl
 |g::r=>by
  have F:∀{α:Type} H1 v (K:α->ax->Option R),qQ ps H H1 (sC L H K v)=qQ ps H H1 (K v):=λH1 v K=>by
   unfold qQ;split
   ·rename_i A hA;exact if_pos (YW hA D)
   ·rfl
  unfold mw;simp[YU D K KP r,am7,F]
theorem apx{R:Type}{P:Program}{G:List (cM P)}{ow rd:List Nat}{pss:List (Nat×Ps)}{o:Oper}{s:aF}{κ:Ky}(h:Uy κ pss o=true)(K:DS->ax->Option R)(KP:Value->ax->Option R):jO P G ow rd pss o s (sC κ.R s.hp K) (sC κ.R s.hp KP)=jO P G ow rd pss o s K KP:=by
 unfold Uy at h;split at h
 ·rename_i heq;unfold jO;simp[heq,YU h]
 ·grind[aoQ]
def VY(P:Program)(G:List (cM P))(ow rd:List Nat)(pss:List (Nat×Ps))(κ:Ky)(st:Bool)(o:Oper)(s:aF)(K:aF->Option R)(KP:Value->ax->Option R):Option R:=
 match κ.wr with
 |true=>only (Uy κ pss o) (jO P G ow rd pss o ⟨s.sl,jH κ.S s.hp⟩ (λv H'=>only (H'.all (λp=>κ.S.has p.1)&&(!st||H'.all λp=>Nat.blt p.1 1000&&mq s.hp p.1)) (K ⟨nr s.sl o.dst v,HF s.hp H'⟩)) λD H'=>only (κ.dx&&H'.all λp=>κ.S.has p.1) (KP D (HF s.hp H')))
 |false=>match My ow rd pss o with
  |true=>jO P G ow rd pss o ⟨s.sl,jH κ.S s.hp⟩ (λv _=>K ⟨nr s.sl o.dst v,s.hp⟩) λ_ _=>none
  |false=>only (jH κ.S s.hp).isEmpty (jO P G ow rd pss o ⟨s.sl,[]⟩ (λv H'=>only H'.isEmpty (K ⟨nr s.sl o.dst v,s.hp⟩)) λ_ _=>none)
def asL(ms i:Nat):Option Nat->Bool
 |some p=>pK ms i p
 |none=>false
def xv(P:Program)(G:List (cM P))(ow rd:List Nat)(pss:List (Nat×Ps))(ops:Array Oper)(ms:Nat):List (Oper×Ky)->Nat->Option Nat->(R:Type)->aF->(aF->Option R)->(Value->ax->Option R)->Option R
 |[],_,_,_,s,K,_=>K s
 |(o,κ)::r,i,x,R,s,K,KP=>match asL ms i x with
  |true=>xv P G ow rd pss ops ms r (i+1) x R s K KP
  |false=>MC ops o s λb s=>match b with
   |true=>VY P G ow rd pss κ x.isSome o s (λF=>xv P G ow rd pss ops ms r (i+1) x R F K KP) λD H'=>(xv P G ow rd pss ops ms r (i+1) (some i) Unit s (λ_=>some ()) λ_ _=>none).bind λ_=>KP D H'
   |false=>xv P G ow rd pss ops ms r (i+1) x R ⟨nr s.sl o.dst (.eR []),s.hp⟩ K KP
end
section
variable {P:Program} {G:List (cM P)} {ow rd:List Nat} {pss:List (Nat×Ps)} {o:Oper} {s:aF}
theorem all_keys{S:KS}{H:ax}(h:(H.all λp=>S.has p.1)=true){k:Nat}(hk:S.has k=false):aj H k=none:=by
 cases e:aj H k with
 |none=>rfl
 |some o=>have:=ax0.1 h _ (z7 e);grind
theorem Ly{κ:Ky}{H':ax}(h1:∀k,κ.S.has k=false->aj H' k=none)(h2:∀k,κ.ro k=true->aj H' k=aj (jH κ.S s.hp) k):gY κ o (nf s.sl) (aj s.hp) s.sl (jH κ.S s.hp) H':=by
 refine⟨λ_ _=>rfl,λk o e=>?_,λk e D=>?_,λk hk=>⟨by rw[LM,if_neg (by grind)],h1 k hk⟩,h2⟩<;>rw[LM]at e<;>split at e
 ·omega
 ·grind
 ·omega
 ·grind
theorem ar7{R:Type}{y:R}{κ:Ky}{st:Bool}{K:aF->Option R}{KP:Value->ax->Option R}(h:VY P G ow rd pss κ st o s K KP=some y):
  (∃v H' L,gY κ o (nf s.sl) (aj s.hp) s.sl (jH κ.S s.hp) H'/\St P o s.sl (jH κ.S s.hp) v H'/\(st=true->Stl κ (aj s.hp) H')/\K L=some y/\nf L.sl=iA (nf s.sl) o.dst (iW v)/\aj L.hp=bu (aj s.hp) (aj H'))\/
  (κ.dx=true/\∃F H' M,gY κ o (nf s.sl) (aj s.hp) s.sl (jH κ.S s.hp) H'/\Ie P o s.sl (jH κ.S s.hp) F H'/\KP F M=some y/\aj M=bu (aj s.hp) (aj H')):=by
 have self:∀{H'},gY κ o (nf s.sl) (aj s.hp) s.sl (jH κ.S s.hp) H'->κ.wr=false->aj s.hp=bu (aj s.hp) (aj H'):=λhf hu=>(hf.still hu).symm;unfold VY at h;split at h
 ·rename_i hu;obtain⟨hR,h⟩:=bE h;have N:∀{H':ax},(∀k,dq κ.R k=true->aj H' k=aj (jH κ.S s.hp) k)->∀k,κ.ro k=true->aj H' k=aj (jH κ.S s.hp) k:=λhs k e=>hs k (by unfold Ky.ro at e;rw[hu]at e;exact e)
  rw[<-apx hR]at h;rcases Mz h with⟨v,H',h1,h2⟩|⟨F,H',h1,h2⟩
  ·unfold sC at h1;split at h1<;>try (cases h1;done)
   rename_i hs;obtain⟨D,J⟩:=bE h1;rw[au0,az0]at D;refine .inl ⟨v,H',_,Ly (λk hk=>all_keys D.1 hk) (N hs),h2,λe=>?_,J,Az _ _ _,Sn _ _⟩;have U:=D.2.resolve_left λq=>by rw[e]at q;grind
   refine .inr λk hk=>?_;obtain⟨o',O⟩:=Option.ne_none_iff_exists'.1 hk;have:=ax0.1 U _ (z7 O);rw[au0,Nat.blt_eq]at this;exact⟨this.1,o8 this.2⟩
  ·unfold sC at h1;split at h1<;>try (cases h1;done)
   rename_i hs;obtain⟨D,J⟩:=bE h1;rw[au0]at D;exact .inr ⟨D.1,F,H',_,Ly (λk hk=>all_keys D.2 hk) (N hs),h2,J,Sn _ _⟩
 ·rename_i hu;split at h
  ·rename_i Y;rcases an1 Y h with⟨v,h1,h2⟩|⟨F,H',h1⟩
   ·have hf:gY κ o (nf s.sl) (aj s.hp) s.sl (jH κ.S s.hp) (jH κ.S s.hp):=Ly (λk hk=>by rw[LM,if_neg (by grind)]) λ_ _=>rfl
    exact .inl ⟨v,_,_,hf,h2,λ_=>.inl hu,h1,Az _ _ _,self hf hu⟩
   ·grind
  ·obtain⟨he,h⟩:=bE h;have he:=List.isEmpty_iff.1 he;rcases Mz h with⟨v,H',h1,h2⟩|⟨F,H',h1,h2⟩
   ·obtain⟨D,J⟩:=bE h1;have D:=List.isEmpty_iff.1 D;subst D;have hf:gY κ o (nf s.sl) (aj s.hp) s.sl (jH κ.S s.hp) []:=Ly (λ_ _=>rfl) λ_ _=>by rw[he]
    exact .inl ⟨v,_,_,hf,by rw[he];exact h2,λ_=>.inl hu,J,Az _ _ _,self hf hu⟩
   ·grind
theorem jm.mono{ops:Array Oper}{ms:Nat}{K F:SF->Hp->Prop}{KP J:Value->Hp->Prop}(L:∀σ h,K σ h->F σ h)(M:∀v h,KP v h->J v h):∀{l:List (Nat×Ky)} {x:Option Nat} {σ:SF} {h:Hp},jm P ops ms x l σ h K KP->jm P ops ms x l σ h F J
 |[],_,_,_,h=>L _ _ h
 |X::r,x,σ,h,D=>by
  rcases D with⟨σ1,h1,g1,D⟩|⟨e,N,h1,g1,g2,D⟩
  ·exact .inl ⟨σ1,h1,g1,jm.mono L M D⟩
  ·exact .inr ⟨e,N,h1,g1,M _ _ g2,D⟩
theorem FK{ops:Array Oper}{ms:Nat}:∀{l:List (Oper×Ky)} {i:Nat} {x:Option Nat} {R:Type} {y:R} {s:aF} {K:aF->Option R} {KP:Value->ax->Option R},(x≠none->∀D H,KP D H=none)->(∀j,(l[j]?).map (·.1)=ops[i+j]?)->xv P G ow rd pss ops ms l i x R s K KP=some y->
  jm P ops ms x ((l.zipIdx i).map λp=>(p.2,p.1.2)) (nf s.sl) (aj s.hp) (λσ h=>∃J,σ=nf J.sl/\h=aj J.hp/\K J=some y) λD h=>∃H,h=aj H/\KP D H=some y
 |[],i,x,R,y,s,K,KP,_,_,h=>⟨s,rfl,rfl,h⟩
 |(o,κ)::r,i,x,R,y,s,K,KP,O,Y,h=>by
  have N:ops[i]? =some o:=by have:=Y 0;grind
  have F:∀j,(r[j]?).map (·.1)=ops[i+1+j]? :=λj=>by have:=Y (j+1);grind
  unfold xv at h;split at h
  ·rename_i hs;refine .inl ⟨_,_,.inl ⟨?_,rfl,rfl⟩,FK O F h⟩;cases x with
   |none=>cases hs
   |some p=>exact hs
  ·rename_i hs
   have U:UI ms i x false:=by
    cases x with
    |none=>rfl
    |some p=>exact hs
   obtain⟨b,s1,h1,L,M,hw⟩:=Zz h;cases b with
   |false=>have:=FK (s:=⟨nr s1.sl o.dst (.eR []),s1.hp⟩) O F h1;rw[Az,L,M]at this;exact .inl ⟨_,_,.inr ⟨U,o,N,.inr ⟨hw,rfl,rfl⟩⟩,this⟩
   |true=>
    rcases ar7 h1 with⟨v,H',J,f1,g1,g2,g3,g4,g5⟩|⟨p1,D,H',Z,f1,g1,g2,g3⟩
    ·have:=FK O F g3;rw[g4,g5]at this;rw[L,M]at*;exact .inl ⟨_,_,.inr ⟨U,o,N,.inl ⟨hw,_,_,v,H',f1,g1,λq=>g2 (by cases x with|none=>exact(q rfl).elim|some p=>rfl),rfl,rfl⟩⟩,this⟩
    ·obtain⟨_,q1,q2⟩:=ay0.1 g2;have ah:x=none:=by grind
     have:=FK (λ_ _ _=>rfl) F q1;rw[L,M]at*;exact .inr ⟨ah,D,_,⟨p1,o,N,hw,_,_,H',f1,g1,rfl⟩,⟨Z,g3.symm,q2⟩,this.mono (λ_ _ _=>trivial) λ_ _ ⟨_,_,q⟩=>by cases q⟩
end
inductive dA where
 |normal
 |exit (id:Nat)
 |ret
 |dx (v:Value)
abbrev gE(n:Nat)(E:cP)(s:aF)(a:Act)(w:World):Prop:=Told n E (bM s.sl) (aj s.hp) a w
def AU(n:Nat)(E:cP)(s:aF)(a:Act)(w:World):Prop:=(∃c h,Conc E c h w/\Sub s.hp h/\(∀k,h k≠none->aj s.hp k=none->k<1000)/\∀t,SR c h w (a.tmps.getD t undef) (bM s.sl t))/\a.tmps.size=n/\a.defers=E.df
def Ue(n:Nat)(E:cP)(Q:dA->aF->Prop):Exit->Act->World->Prop
 |.normal,a,w=>∃s,gE n E s a w/\Q .normal s
 |.exit id,a,w=>∃s,gE n E s a w/\Q (.exit id) s
 |.ret,a,w=>∃s,gE n E s a w/\Q .ret s
 |.panic D,a,w=>∃s v,D=FU v/\AU n E s a w/\Q (.dx v) s
 |_,_,_=>False
def Wk(e:dA)(s D:aF):Prop:=D=s\/sD s D\/((∀v,e≠.dx v)/\fI s D)
def UC(Q:dA->aF->Prop):dA->aF->Prop:=λe s=>∃D,Wk e s D/\Q e D
def k6(P:Program)(n:Nat)(c:Code)(Q:dA->aF->Prop)(s:aF):Prop:= ∀E a w,gE n E s a w->c.wp P (Ue n E Q) a w
section
variable {P:Program} {n:Nat} {E:cP} {Q:dA->aF->Prop} {s:aF}
theorem Ai{sl:cG}{h:Hp}{a:Act}{w:World}:Told n E (nf sl) h a w<->Told n E (bM sl) h a w:=
 ⟨λ⟨⟨c,h1,h2⟩,D⟩=>⟨⟨c,h1,λt=>SR.iW.1 (h2 t)⟩,D⟩,λ⟨⟨c,h1,h2⟩,D⟩=>⟨⟨c,h1,λt=>SR.iW.2 (h2 t)⟩,D⟩⟩
theorem gE.p{a:Act}{w:World}(h:gE n E s a w):AU n E s a w:=by obtain⟨⟨c,h1,h2⟩,D⟩:=h;exact⟨⟨c,_,h1,λ_ _ h=>h,λk h1 h2=>(h1 h2).elim,h2⟩,D⟩
theorem Gd.told{x:Nat}{D:aF}(hw:Gd x s D)(M:E.H x=none){a:Act}{w:World}(h:AU n E s a w):gE n E D a w:=by obtain⟨⟨c,h0,h1,h2,F,J⟩,L⟩:=h;exact⟨hw E c h0 w _ M h1 h2 F J,L⟩
theorem sD.told{D:aF}(hw:sD s D){a:Act}{w:World}(h:AU n E s a w):gE n E D a w:=Gd.told hw (by obtain⟨⟨c,h0,h1,_⟩,_⟩:=h;exact adz h1) h
theorem acf{c:Code}(h:k6 P n c (UC Q) s):k6 P n c Q s:=λE a w F=>Code.wp_mono (λe a w h=>by
 have key:∀{e:dA} {s D:aF},(∀v,e≠.dx v)->Wk e s D->gE n E s a w->gE n E D a w:=λhe hw F=>by
  rcases hw with rfl|hw|⟨_,hw⟩
  ·exact F
  ·exact hw.told F.p
  ·exact hw.told F
 cases e<;>first|exact h.elim|skip
 ·obtain⟨s,h1,D,g1,g2⟩:=h;exact⟨D,key (e:=.normal) (λv h=>nomatch h) g1 h1,g2⟩
 ·obtain⟨s,h1,D,g1,g2⟩:=h;exact⟨D,key (e:=.exit _) (λv h=>nomatch h) g1 h1,g2⟩
 ·obtain⟨s,h1,D,g1,g2⟩:=h;exact⟨D,key (e:=.ret) (λv h=>nomatch h) g1 h1,g2⟩
 ·obtain⟨s,v,h0,h1,D,g1,g2⟩:=h;refine⟨D,v,h0,?_,g2⟩;rcases g1 with rfl|hw|⟨q,_⟩
  ·exact h1
  ·exact(hw.told h1).p
  ·exact(q v rfl).elim) (h E a w F)
theorem LV{c:Code}{D:aF}(hw:fI s D)(h:k6 P n c Q D):k6 P n c Q s:=λE a w F=>h E a w (hw.told F)
def acY(K:aF->Prop)(Q:dA->aF->Prop):dA->aF->Prop
 |.normal,s=>K s
 |e,s=>Q e s
theorem arO{x y:Code}(h:k6 P n x (acY (k6 P n y Q) Q) s):k6 P n (.seq x y) Q s:=λE a w F=>
 wp_seq (Code.wp_mono (λe a w D=>by
  cases e<;>first|exact D.elim|exact D|skip
  obtain⟨J,h1,h2⟩:=D;exact h2 E a w h1) (h E a w F))
def asi(id:Nat)(Q:dA->aF->Prop):dA->aF->Prop
 |.exit D,s=>if D=id then Q .normal s else Q (.exit D) s
 |e,s=>Q e s
theorem aoP{id:Nat}{c:Code}(h:k6 P n c (asi id Q) s):k6 P n (.block id c) Q s:=λE a w M=>
 wp_block (Code.wp_mono (λe a w J=>by
  cases e<;>first|exact J.elim|exact J|skip
  rename_i L;obtain⟨F,h1,h2⟩:=J;have D:if L=id then Q .normal F else Q (.exit L) F:=h2
  show if L=id then _ else _
  split
  ·rename_i e;rw[if_pos e]at D;exact⟨F,h1,D⟩
  ·rename_i e;rw[if_neg e]at D;exact⟨F,h1,D⟩) (h E a w M))
theorem acJ{c:Cx}{h:Hp}{w:World}{a:Act}{sl:cG}(hs:∀t,SR c h w (a.tmps.getD t undef) (bM sl t)){x:Operand}{d:DS}(D:bq sl x=some d):SR c h w (a.eval x) d:=by
 cases x with
 |tmp t=>cases D;exact hs t
 |const v=>exact ZM D
 |global g=>cases D
 |func f=>cases D;exact⟨[],[],rfl,.nil,.nil⟩
theorem SM{c:Operand}{x y:Code}{b:Bool}(hc:∃d,bq s.sl c=some d/\iW d=.c (.v .bool b))(h1:b=true->k6 P n x Q s)(h2:b=false->k6 P n y Q s):k6 P n (.cond c x y) Q s:=λE a w N=>by obtain⟨d,L,M⟩:=hc;obtain⟨⟨F,g1,g2⟩,g3⟩:=N;have J:=SR.iW.2 (acJ g2 L);rw[M]at J;have e:Value.bool b=a.eval c:=J.2;exact wp_cond_split e.symm (λD=>h1 D E a w ⟨⟨F,g1,g2⟩,g3⟩) λD=>h2 D E a w ⟨⟨F,g1,g2⟩,g3⟩
def Mn(P:Program)(n:Nat)(c:Code)(Q:dA->aF->Prop):Nat->aF->Prop
 |0,_=>False
 |k+1,s=>k6 P n c (acY (Mn P n c Q k) Q) s
theorem am5{c:Code}(k:Nat)(h:Mn P n c Q k s):k6 P n (.loop c) Q s:=λE a w J=>by
 refine wp_loop_rounds k ?_
 induction k generalizing s a w with
 |zero=>exact h.elim
 |succ k L=>
  rw[rounds_succ];refine Code.wp_mono (λe F w' D=>?_) (h E a w J);cases e<;>first|exact D.elim|exact D|skip
  obtain⟨M,h1,h2⟩:=D;exact L h2 F w' h1
theorem aj1{c:Code}{k:Nat}{D:aF}(hw:fI s D)(h:Mn P n c Q k D):Mn P n c Q k s:=by
 cases k with
 |zero=>exact h.elim
 |succ k=>exact LV hw h
end
inductive EK where
 |normal
 |exit (id:Nat)
 |ret
 |dx
@[reducible] def Ik:EK×Shape->Type
 |(.dx,sh)=>Value×cm sh
 |(_,sh)=>cm sh
@[reducible] def JO:List (EK×Shape)->Type
 |[]=>Empty
 |a::[]=>Ik a
 |a::r=>Ik a⊕JO r
def Nu:(a:EK×Shape)->dA->aF->Option (Ik a)
 |(.normal,sh),.normal,s=>qK sh s
 |(.exit i,sh),.exit j,s=>match au9 i j with|true=>qK sh s|false=>none
 |(.ret,sh),.ret,s=>qK sh s
 |(.dx,sh),.dx v,s=>match qK sh s with|some x=>some (v,x)|none=>none
 |_,_,_=>none
def A3{R:Type}:(a:EK×Shape)->Ik a->(dA->aF->Option R)->Option R
 |(.normal,sh),x,K=>K .normal (mkD sh x)
 |(.exit i,sh),x,K=>K (.exit i) (mkD sh x)
 |(.ret,sh),x,K=>K .ret (mkD sh x)
 |(.dx,sh),x,K=>K (.dx x.1) (mkD sh x.2)
def Nt:(l:List (EK×Shape))->dA->aF->Option (JO l)
 |[],_,_=>none
 |a::[],e,s=>Nu a e s
 |a::b::r,e,s=>match Nu a e s with
  |some v=>some (.inl v)
  |none=>match Nt (b::r) e s with|some v=>some (.inr v)|none=>none
def Uz{R:Type}:(l:List (EK×Shape))->JO l->(dA->aF->Option R)->Option R
 |[],_,_=>none
 |a::[],v,K=>A3 a v K
 |a::b::r,v,K=>match v with
  |.inl v=>A3 a v K
  |.inr v=>Uz (b::r) v K
theorem abN{R:Type}{K:dA->aF->Option R}{a:EK×Shape}{e:dA}{s:aF}{o:Ik a}(h:Nu a e s=some o):∃D,sD s D/\A3 a o K=K e D:=by
 unfold Nu at h;split at h
 ·exact⟨_,tQ h,rfl⟩
 ·split at h
  ·rename_i F;obtain rfl:=aw6 F;exact⟨_,tQ h,rfl⟩
  ·grind
 ·exact⟨_,tQ h,rfl⟩
 ·split at h
  ·rename_i x J;cases h;exact⟨_,tQ J,rfl⟩
  ·grind
 ·grind
theorem abM{R:Type}{K:dA->aF->Option R}:∀{l:List (EK×Shape)} {e:dA} {s:aF} {o:JO l},Nt l e s=some o->∃F,sD s F/\Uz l o K=K e F
 |[],_,_,_,h=>by cases h
 |a::[],_,_,_,h=>abN h
 |a::b::r,e,s,o,h=>by
  unfold Nt at h;split at h
  ·rename_i v D;cases h;exact abN D
  ·split at h
   ·rename_i v D;cases h;exact abM (l:=b::r) D
   ·grind
structure bo where
 un:List Un:=[]
 pre:List Gh:=[]
 unp:List Un:=[]
 post:List Gh:=[]
 ow:List Nat:=[]
 rd:List Nat:=[]
 ps:List (Nat×List (Nat×Nat)):=[]
 kf:List (Nat×Ky):=[]
 gx:List (Nat×List Gh):=[]
 ux:List (Nat×List Un):=[]
 cn:List (Nat×List Nat):=[]
 cs:Option (Nat×List UInt8×List Gh):=none
 cut:List (EK×Shape):=[]
 loop:Option Shape:=none
def fS:List (Nat×bo)->Nat->bo
 |[],_=>{}
 |(q,a)::r,p=>match au9 q p with|true=>a|false=>fS r p
def M7(cs:Option (Nat×List UInt8×List Gh))(body:(R:Type)->aF->(dA->aF->Option R)->Option R)(R:Type)(s:aF)(K:dA->aF->Option R):Option R:=
 match cs with
 |none=>body R s K
 |some (t,c,gs)=>match bM s.sl t with
  |.c (.v .str x)=>cond (decide (x=c)) (body R (vn gs s) K) (body R s K)
  |_=>body R s K
def qH(a:bo)(body:(R:Type)->aF->(dA->aF->Option R)->Option R)(R:Type)(s:aF)(K:dA->aF->Option R):Option R:=MQ a.un s λs=>
 match a.cut with
 |[]=>M7 a.cs body R (vn a.pre s) λe D=>match e with
  |.normal=>MQ a.unp D λD=>K .normal (vn a.post D)
  |e=>K e D
 |alt::r=>(M7 a.cs body (JO (alt::r)) (vn a.pre s) (Nt (alt::r))).bind λo=>Uz (alt::r) o K
def UD:List (Nat×List Gh)->Nat->List Gh
 |[],_=>[]
 |(q,l)::r,i=>match au9 q i with|true=>l|false=>UD r i
def adC(ow:List Nat)(o:Oper):Bool:=match o.op with
 |.alloc _=>true
 |.box _ _=>true
 |.makeSlice _ _ _=>true
 |.buildSlice _ _ _=>B7 ow o.dst
 |_=>false
def ato(ow rd D:List Nat)(o:Oper):Ky:=match adC ow o with
 |true=>.n (o.dst.getD 0)
 |false=>match o.op with
  |.load _ _=>⟨false,false,.o D,[]⟩
  |.fieldAddr _ _ _=>⟨false,false,.o D,[]⟩
  |.indexAddr _ _ _=>⟨false,false,.o D,[]⟩
  |.store _ _ _=>.w
  |.call {callee:=.builtin .append,args:=_,argTypes:=_}=>match B7 ow o.dst with|true=>.p|false=>.w
  |.call {callee:=.builtin .clear,args:=_,argTypes:=_}=>.w
  |.call {callee:=.builtin _,args:=_,argTypes:=_}=>⟨false,false,.o D,[]⟩
  |.call {callee:=.value _,args:=_,argTypes:=_}=>match inL ow o.dst with
   |true=>.w
   |false=>match dq rd (o.dst.getD 1000000)with|true=>⟨false,false,.o D,[]⟩|false=>.p
  |_=>.p
def adE:List (Nat×Ky)->Nat->Ky
 |[],_=>.p
 |(i,k)::r,j=>match au9 i j with|true=>k|false=>adE r j
def wR(ow rd D:List Nat)(kf:List (Nat×Ky)):Nat->List Oper->List (Oper×Ky)
 |_,[]=>[]
 |i,o::r=>(o,match kf with|[]=>ato ow rd D o|kf=>adE kf i)::wR ow rd D kf (i+1) r
theorem alM(ow rd D:List Nat)(kf:List (Nat×Ky)):∀(l:List Oper) (i j:Nat),((wR ow rd D kf i l)[j]?).map (·.1)=l[j]? :=by
 intro l
 induction l with
 |nil=>intro i j;rfl
 |cons o r F=>
  intro i j;cases j with
  |zero=>rfl
  |succ j=>simpa[wR]using F (i+1) j
theorem alL(ow rd D:List Nat)(kf:List (Nat×Ky)):∀(l:List Oper) (i:Nat),(wR ow rd D kf i l).length=l.length:=by
 intro l
 induction l with
 |nil=>intro i;rfl
 |cons o r F=>simp[wR,F]
def RunT{R:Type}(P:Program)(G:List (cM P))(ow rd:List Nat)(pss:List (Nat×Ps))(gx:List (Nat×List Gh))(ops:Array Oper)(KP:Value->aF->Option R):List Oper->Nat->aF->(aF->Option R)->Option R
 |[],_,s,K=>K s
 |o::r,i,s,K=>MC ops o (vn (UD gx i) s) λb s=>match b with
  |true=>jO P G ow rd pss o s (λv H'=>RunT P G ow rd pss gx ops KP r (i+1) ⟨nr s.sl o.dst v,H'⟩ K) λv H'=>KP v ⟨s.sl,H'⟩
  |false=>RunT P G ow rd pss gx ops KP r (i+1) ⟨nr s.sl o.dst (.eR []),s.hp⟩ K
def news(ow:List Nat)(ops:List Oper):List Nat:=ops.filterMap λo=>match adC ow o with|true=>o.dst|false=>none
def exec(P:Program)(n:Nat)(G:List (cM P))(D:List (Nat×bo)):Code->Nat->(R:Type)->aF->(dA->aF->Option R)->Option R
 |.skip,p=>qH (fS D p) λR s K=>K .normal s
 |.region _ ops draw,p=>qH (fS D p) λR s K=>match FR n ops.toList.toArray with
  |true=>match draw with
   |true=>TT (pq ops.toList 0 0) λms=>match P.follows .mixedOrders&&calm ops.toList.toArray ms (((wR (fS D p).ow (fS D p).rd (news (fS D p).ow ops.toList) (fS D p).kf 0 ops.toList).zipIdx 0).map λp=>(p.2,p.1.2))with
    |true=>xv P G (fS D p).ow (fS D p).rd (fS D p).ps ops.toList.toArray ms (wR (fS D p).ow (fS D p).rd (news (fS D p).ow ops.toList) (fS D p).kf 0 ops.toList) 0 none R s (K .normal) λv H=>K (.dx v) ⟨[],H⟩
    |false=>none
   |false=>RunT P G (fS D p).ow (fS D p).rd (fS D p).ps (fS D p).gx ops.toList.toArray (λv s=>K (.dx v) s) ops.toList 0 s (K .normal)
  |false=>none
 |.seq a b,p=>qH (fS D p) λR s K=>exec P n G D a (2*p) R s λe F=>match e with
  |.normal=>exec P n G D b (2*p+1) R F K
  |e=>K e F
 |.cond c a b,p=>qH (fS D p) λR s K=>match bq s.sl c with
  |some (.c (.kb true))=>exec P n G D a (2*p) R s K
  |some (.c (.kb false))=>exec P n G D b (2*p+1) R s K
  |some (.c (.v .bool x))=>cond x (exec P n G D a (2*p) R s K) (exec P n G D b (2*p+1) R s K)
  |_=>none
 |.block id a,p=>qH (fS D p) λR s K=>exec P n G D a (2*p) R s λe F=>match e with
  |.exit i=>match au9 i id with|true=>K .normal F|false=>K (.exit i) F
  |e=>K e F
 |.loop a,p=>qH (fS D p) λR s K=>match(fS D p).loop with
  |none=>none
  |some sh=>(qK sh s).bind (ae λv=>exec P n G D a (2*p) (cm sh⊕R) (mkD sh v) λe F=>match e with
   |.normal=>match qK sh F with|some v=>some (.inl v)|none=>none
   |e=>match K e F with|some r=>some (.inr r)|none=>none)
 |.exit id,p=>qH (fS D p) λR s K=>K (.exit id) s
 |.ret,p=>qH (fS D p) λR s K=>K .ret s
 |_,_=>λ_ _ _=>none
termination_by structural c=>c
def FW(P:Program)(n:Nat)(c:Code)(body:(R:Type)->aF->(dA->aF->Option R)->Option R):Prop:=
 ∀(R:Type) (s:aF) (K:dA->aF->Option R) (y:R),body R s K=some y->∀Q:dA->aF->Prop,(∀e D,K e D=some y->Q e D)->k6 P n c Q s
theorem abe{P:Program}{n:Nat}{c:Code}{body:(R:Type)->aF->(dA->aF->Option R)->Option R}(F:FW P n c body)(cs:Option (Nat×List UInt8×List Gh)):FW P n c (M7 cs body):=by
 intro R s K y h Q D;unfold M7 at h;split at h
 ·exact F R s K y h Q D
 ·rename_i t q gs;split at h
  ·rename_i x _;cases J:decide (x=q)with
   |true=>rw[J]at h;exact LV (AE gs s) (F R _ K y h Q D)
   |false=>rw[J]at h;exact F R s K y h Q D
  ·exact F R s K y h Q D
theorem tN{P:Program}{n:Nat}{c:Code}{body:(R:Type)->aF->(dA->aF->Option R)->Option R}(F:FW P n c body)(a:bo):FW P n c (qH a body):=by
 intro R s K y h Q D;unfold qH at h;obtain⟨U,J,h⟩:=R9 h;refine LV (J.trans (AE a.pre U)) ?_;split at h
 ·refine acf (abe F a.cs R _ _ y h (UC Q) λe O hk=>?_);cases e with
  |normal=>obtain⟨s2,L,hk⟩:=R9 hk;exact⟨_,.inr (.inr ⟨λv h=>(nomatch h),L.trans (AE a.post s2)⟩),D _ _ hk⟩
  |_=>exact⟨_,.inl rfl,D _ _ hk⟩
 ·obtain⟨o,h1,h2⟩:=ay0.1 h;refine acf (abe F a.cs _ _ _ o h1 (UC Q) λe O hk=>?_);obtain⟨s2,M,N⟩:=abM (K:=K) hk;rw[N]at h2;exact⟨_,.inr (.inl M),D _ _ h2⟩
theorem S8{P:Program}{n:Nat}{G:List (cM P)}{ow rd:List Nat}{pss:List (Nat×Ps)}{gx:List (Nat×List Gh)}{R:Type}{y:R}{E:cP}{K:aF->Option R}{KP:Value->aF->Option R}{Q:dA->aF->Prop}(M:∀F,K F=some y->Q .normal F)(N:∀v F,KP v F=some y->Q (.dx v) F){ops:List Oper}(D:FR n ops.toArray=true):
  ∀(l:List Oper) (i:Nat) (s:aF) (a:Act) (w:World),(∀j,l[j]? =ops[i+j]?)->gE n E s a w->RunT P G ow rd pss gx ops.toArray KP l i s K=some y->wpOps P ops.toArray (Ue n E Q) (List.range' i l.length) a w
 |[],i,s,a,w,_,J,h=>⟨s,J,M s h⟩
 |o::r,i,s,a,w,hk,J,h=>by
  have h0:ops.toArray[i]? =some o:=by simpa using(hk 0).symm
  have hr:∀j,r[j]? =ops[i+1+j]? :=λj=>by have:=hk (j+1);grind
  rw[av1,List.range'_succ,wpOps_cons];unfold wpOp;rw[h0];simp only;unfold RunT at h;have J:=(AE (UD gx i) s).told J;obtain⟨b,s1,h1,e1,Z,hw⟩:=Zz h;have an:gE n E s1 a w:=by rw[gE,e1,<-Ai,Z,Ai];omega
  have ar:=an;rw[gE,<-Ai]at ar;rw[<-Z]at hw;obtain⟨⟨c,g1,g2⟩,g3,g4⟩:=ar;rw[R0 g2 hw];cases b with
  |false=>
   rw[if_neg (by simp)]
   refine S8 M N D r (i+1) _ _ _ hr ?_ h1;have:=Y3 (Ll D h0) ⟨⟨c,g1,g2⟩,g3,g4⟩;rw[gE,<-Ai,Az];exact this
  |true=>
   rw[if_pos rfl];refine .inl ?_;obtain⟨⟨c,q1,U⟩,Y,q4⟩:=an;have ah:∀x∈o.op.operands,∀d,bq s1.sl x=some d->SR c (aj s1.hp) w (a.eval x) d:=λx _ d D=>acJ U D;rcases aq5 h1 with⟨v,H',h2,L,O⟩|⟨pv,H',h2,L,O⟩
   ·refine L E c (aj s1.hp) w a _ _ q1 (λ_ _ h=>h) (λk h _=>h) ah λval w' c' g1 g2 g3=>?_;rw[O]at g1 g2 g3;refine S8 M N D r (i+1) ⟨nr s1.sl o.dst v,H'⟩ _ _ hr ⟨⟨c',g1,?_⟩,by rw[LH];exact Y,by rw[put_defers];exact q4⟩ h2
    rw[Fc];exact L8 Y (Ll D h0) (λt=>(U t).fM g2) g3
   ·refine L E c (aj s1.hp) w a _ _ q1 (λ_ _ h=>h) (λk h _=>h) ah λw' c' g1 g2=>?_;rw[O]at g1 g2;exact⟨⟨s1.sl,H'⟩,pv,rfl,gE.p ⟨⟨c',g1,λt=>(U t).fM g2⟩,Y,q4⟩,N _ _ h2⟩
theorem Tq(P:Program)(n:Nat)(G:List (cM P))(Z:List (Nat×bo)):∀(c:Code) (p:Nat),FW P n c (exec P n G Z c p):=by
 intro c
 induction c with
 |skip=>intro p;unfold exec;exact tN (λR s K y h Q D E a w J=>wp_skip ⟨s,J,D _ _ h⟩) _
 |region id ops draw=>
  intro p;unfold exec;refine tN (λR s K y h Q D=>?_) _;split at h<;>try (cases h;done)
  rename_i U;split at h
  ·rw[ZD]at h;split at h<;>try (cases h;done)
   rename_i M;rw[au0]at M;have ah:=FK (λq=>(q rfl).elim) (λj=>by rw[alM];simp) h
   exact λE a w J=>arT (n:=n) (E:=E) (σ:=nf s.sl) (h:=aj s.hp) (KP:=λv h=>∃H,Sub H h/\(∀k,h k≠none->aj H k=none->k<1000)/\K (.dx v) ⟨[],H⟩=some y) _ M.1 (by simp [alL]) M.2 U
    (λσ h a w h1 ⟨F,e1,e2,e3⟩=>by subst e1;subst e2;exact⟨F,Ai.1 h1,D _ _ e3⟩)
    (λv h h' ⟨H,g1,g2,g3⟩ g4 g5=>⟨H,λk o e=>g4 k o (g1 k o e),λk e e'=>by
     cases q:h k with
     |none=>exact g5 k q e
     |some o=>exact g2 k (by grind) e',g3⟩)
    (λv h c a w hC h1 h2 ⟨H,g1,g2,g3⟩=>⟨⟨[],H⟩,v,rfl,⟨⟨c,h,hC,g1,g2,λt=>trivial⟩,h1,h2⟩,D _ _ g3⟩)
    (Ai.2 J) (ah.mono (λ_ _ h=>h) λv h ⟨H,e,q⟩=>by subst e;exact⟨H,λ_ _ h=>h,λk h1 h2=>(h1 h2).elim,q⟩)
  ·exact λE a w J=>wp_region (by
    have:=S8 (λF O=>D _ _ O) (λv F O=>D _ _ O) U ops.toList 0 s a w (λj=>by rw[ax2]) J h
    rw[List.range_eq_range'];simpa using this)
 |seq a b L N=>
  intro p;unfold exec;refine tN (λR s K y h Q D=>?_) _;refine arO (L _ R s _ y h _ λe F hk=>?_);cases e with
  |normal=>exact N _ R F K y hk Q D
  |_=>exact D _ _ hk
 |cond c a b L N=>
  intro p;unfold exec;refine tN (λR s K y h Q D=>?_) _;split at h<;>try (cases h;done)
  ·rename_i he;exact SM ⟨_,he,rfl⟩ (λ_=>L _ R s K y h Q D) λe=>by cases e
  ·rename_i he;exact SM ⟨_,he,rfl⟩ (λe=>by cases e) λ_=>N _ R s K y h Q D
  ·rename_i x he;refine SM (b:=x) ⟨_,he,rfl⟩ (λe=>?_) λe=>?_
   ·subst e;exact L _ R s K y h Q D
   ·subst e;exact N _ R s K y h Q D
 |block id a L=>
  intro p;unfold exec;refine tN (λR s K y h Q D=>?_) _;refine aoP (L _ R s _ y h _ λe F hk=>?_);cases e with
  |exit i=>
   simp at hk;show if i=id then Q .normal F else Q (.exit i) F
   split at hk
   ·simp_all
   ·rename_i Y;rw[if_neg λe=>by subst e;rw[Nat.beq_refl]at Y;cases Y];exact D _ _ hk
  |_=>exact D _ _ hk
 |loop a L=>
  intro p;unfold exec;refine tN (λR s K y h Q D=>?_) _;split at h
  ·grind
  ·rename_i sh az;obtain⟨v,h1,h2⟩:=ay0.1 h;refine LV (tQ h1).AV ?_;obtain⟨m,hm⟩:=o5.1 h2;refine am5 m ?_;clear h h2 h1
   induction m generalizing v with
   |zero=>cases hm
   |succ m ih=>
    unfold jD at hm;split at hm
    ·rename_i v' ar;refine L _ _ _ _ _ ar _ λe F hk=>?_;cases e with
     |normal=>
      simp at hk;split at hk
      ·rename_i v2 h2;simp[Sum.inl.injEq]at hk;subst hk;exact aj1 (tQ h2).AV (ih _ hm)
      ·cases hk
     |_=>simp at hk;split at hk<;>cases hk
    ·rename_i r M;cases hm;refine L _ _ _ _ _ M _ λe F hk=>?_;cases e with
     |normal=>grind
     |_=>
      simp at hk;split at hk
      ·rename_i r2 h2;simp[Sum.inr.injEq]at hk;subst hk;exact D _ _ h2
      ·cases hk
    ·cases hm
 |exit id=>intro p;unfold exec;exact tN (λR s K y h Q D E a w J=>wp_exit ⟨s,J,D _ _ h⟩) _
 |ret=>intro p;unfold exec;exact tN (λR s K y h Q D E a w J=>wp_ret ⟨s,J,D _ _ h⟩) _
 |_=>intro p R s K y h;cases h
def adk(P:Program)(H:ax)(x:DS)(ty:TypeId):Option DS:=
 match x with
 |.c (.ptr k 0)=>match aj H k,nI P ty with
  |some (.var D cells),some (true,n)=>if au9 D iQ=false/\n<=cells.length then some (.agg (cells.take n))else none
  |some (.var D (x::_)),some (false,1)=>if au9 D iQ=false then some (.c x)else none
  |_,_=>none
 |_=>none
def xr(P:Program):List ResultVar->aF->Option cG
 |[],_=>some []
 |.tmp t::r,s=>match xr P r s with|some l=>some ((t,bM s.sl t)::l)|none=>none
 |.cell a ty::r,s=>match adk P s.hp (bM s.sl a) ty,xr P r s with|some v,some l=>some ((3000000+a,v)::l)|_,_=>none
def M0:List Nat->List Nat->Bool
 |[],[]=>true
 |a::t,b::u=>au9 a b&&M0 t u
 |_,_=>false
theorem apQ:∀{l k:List Nat},M0 l k=true->l=k:=by
 intro l
 induction l with
 |nil=>intro k h;cases k with
  |nil=>rfl
  |cons b u=>cases h
 |cons a t D=>intro k h;cases k with
  |nil=>cases h
  |cons b u=>unfold M0 at h;rw[au0]at h;rw[aw6 h.1,D h.2]
def AM(x:Nat)(P:Program)(rs:List ResultVar)(sh:Shape)(s:aF):Option (cm sh):=
 match xr P rs s with
 |some l=>match M0 (l.map (·.1)) (sh.sl.map (·.1))&&km (l.map (·.1))with
  |true=>MR x sh ⟨l,s.hp⟩
  |false=>none
 |none=>none
def adx(P:Program)(rs:List ResultVar)(sh:Shape)(s:aF):Option (cm sh):=AM 0 P rs sh s
def Ni(P:Program)(rs:List ResultVar):(a:Bool×Shape)->dA->aF->Option (Ij a)
 |(false,sh),.normal,s=>adx P rs sh s
 |(false,sh),.ret,s=>adx P rs sh s
 |(true,sh),.dx v,s=>match qK sh s with|some x=>some (v,x)|none=>none
 |_,_,_=>none
def Nh(P:Program)(rs:List ResultVar):(l:List (Bool×Shape))->dA->aF->Option (JU l)
 |[],_,_=>none
 |a::[],e,s=>Ni P rs a e s
 |a::b::r,e,s=>match Ni P rs a e s with
  |some v=>some (.inl v)
  |none=>match Nh P rs (b::r) e s with|some v=>some (.inr v)|none=>none
section
variable {P:Program} {c:Cx} {h:Hp} {w:World}
def xj(a:Act):ResultVar->Sem Value
 |.tmp t=>pure (a.tmps.getD t undef)
 |.cell b t=>do loadVar t (<-asAddr (a.tmps.getD b undef))
theorem abZ{E:cP}{s:aF}{a:Act}(hC:Conc E c h w)(L:Sub s.hp h)(hs:∀t,SR c h w (a.tmps.getD t undef) (bM s.sl t)):∀{rs:List ResultVar} {l:cG},xr P rs s=some l->
  ∃vs,(rs.mapM (xj a)).run P w=.ok vs w/\au (λv p=>SR c h w v p.2) vs l
 |[],l,e=>by cases e;exact⟨[],by simp,.nil⟩
 |r::rs,l,e=>by
  have key:∀{v:Value} {k:Nat} {d:DS} {M:cG},xr P rs s=some M->(xj a r).run P w=.ok v w->SR c h w v d->
    ∃vs,((r::rs).mapM (xj a)).run P w=.ok vs w/\au (λv p=>SR c h w v p.2) vs ((k,d)::M):=λ{v k d M} F hr D=>by
   obtain⟨vs,h1,h2⟩:=abZ hC L hs F;refine⟨v::vs,?_,.cons D h2⟩;simp_all
  cases r with
  |tmp t=>
   unfold xr at e;split at e<;>try (cases e;done)
   rename_i M F;cases e;exact key F rfl (hs t)
  |cell b ty=>
   unfold xr at e;split at e<;>try (cases e;done)
   rename_i v M D F;cases e;unfold adk at D;split at D<;>try (cases D;done)
   rename_i k hx;have Y:=hs b;rw[hx]at Y;split at D<;>try (cases D;done)
   ·rename_i vt cells n J Z;split at D<;>try (cases D;done)
    rename_i hle;obtain⟨h0,hle⟩:=hle;cases D;obtain⟨N,hm,e⟩:=Aw (w:=w) L J Y;obtain⟨z,O,U⟩:=wH (P:=P) Z (b:=N) (o:=0) (i:=0) (by grind) (λj v D=>by rw[ax2];exact D) (hC.R4 (L _ _ J) hm h0)
    refine key F ?_ U;simp[Instr.loadAt,Instr.sureAddr]at O;simp[xj,e,asAddr];omega
   ·rename_i vt x t J Z;split at D<;>try (cases D;done)
    rename_i h0;cases D;obtain⟨N,hm,e⟩:=Aw (w:=w) L J Y;obtain⟨z,O,U⟩:=wH (P:=P) Z (b:=N) (o:=0) (i:=0) (l:=x::t) rfl (λj v D=>by rw[ax2];exact D) (hC.R4 (L _ _ J) hm h0)
    refine key F ?_ U;simp[Instr.loadAt,Instr.sureAddr]at O;simp[xj,e,asAddr];omega
end
def AP:cG->List Value->Nat->Value
 |p::l,v::vs,t=>if p.1=t then v else AP l vs t
 |_,_,_=>undef
theorem LS:∀{l:cG} {t:Nat},t∉l.map (·.1)->bM l t=.dead
 |[],_,_=>rfl
 |p::l,t,h=>by
  show(if p.1=t then p.2 else bM l t)=_
  rw[if_neg λe=>h (by grind),LS λe=>h (ax5 _ e)]
theorem Zq{c:Cx}{h:Hp}{w:World}:∀{l:cG} {vs:List Value},au (λv p=>SR c h w v p.2) vs l->∀t,SR c h w (AP l vs t) (bM l t)
 |[],_,_,t=>trivial
 |p::l,_,.cons h1 h2,t=>by
  show SR c h w (if p.1=t then _ else AP l _ t) (if p.1=t then p.2 else bM l t)
  split
  ·omega
  ·exact Zq h2 t
theorem abk{S:Value->DS->Prop}(L:∀v,S v .dead){α:Type}{T:Value->α->Prop}:∀{D F:cG} {vs:List Value},D.map (·.1)=F.map (·.1)->km (D.map (·.1))=true->vs.length=D.length->(∀t,S (AP D vs t) (bM F t))->au S vs (F.map (·.2))
 |[],[],[],_,_,_,_=>.nil
 |[],_::_,_,e,_,_,_=>nomatch e
 |_::_,[],_,e,_,_,_=>nomatch e
 |[],[],_::_,_,_,e,_=>nomatch e
 |p::D,q::F,[],_,_,e,_=>nomatch e
 |p::D,q::F,v::vs,e,J,el,h=>by
  simp[List.cons.injEq]at e;simp[km]at J;have h0:=h p.1;have h0:S (if p.1=p.1 then v else _) (if q.1=p.1 then q.2 else _):=h0
  rw[if_pos rfl,if_pos e.1.symm]at h0;refine .cons h0 (abk L (T:=T) e.2 J.2 (by grind) λt=>?_)
  by_cases M:p.1=t
  ·have:t∉D.map (·.1):=λhm=>by rw[<-M,<-nU,J.1]at hm;cases hm
   rw[LS (l:=F) (by grind)]
   grind
  ·have h2:S (if p.1=t then v else AP D vs t) (if q.1=t then q.2 else bM F t):=h t
   grind
theorem aq1{X:Type}{c:Cx}{h:Hp}{w:World}{u:Value}{s:SS}{v:VS X s}(hp:nZ s=true)(hu:SR c h w u (mkS s v).1):UR c h w u (xS (mkS s v).1):=by
 cases s with
 |fn=>cases hp
 |_=>exact hu
theorem aps{X:Type}{c:Cx}{h:Hp}{w:World}{q:List (Nat×SS)}{x:pZ X q}{vs:List Value}(hp:q.all (λp=>nZ p.2)=true)(D:au (SR c h w) vs ((mkSl q x).1.map (·.2))):SR c h w (if h:vs.toArray.size=1 then vs.toArray[0]else .tuple vs.toArray) (sF (mkSl q x).1):=by
 have eR:∀{q:List (Nat×SS)} {x:pZ X q} {vs:List Value},q.all (λp=>nZ p.2)=true->au (SR c h w) vs ((mkSl q x).1.map (·.2))->au (UR c h w) vs ((mkSl q x).1.map λp=>xS p.2):=by
  intro q
  induction q with
  |nil=>intro x vs _ D;cases D;exact .nil
  |cons p q F=>
   intro x vs hp D;simp_all;cases D with
   |cons h1 h2=>exact .cons (aq1 hp.1 h1) (F hp.2 h2)
 have hlen:=D.len
 match q,x,hp,D with
 |[],x,hp,D=>cases D;exact⟨[],rfl,.nil⟩
 |[p],x,hp,D=>
  have D:=D;cases D with
  |cons h1 h2=>cases h2;exact h1
 |p::J::q,x,hp,D=>
  rw[dif_neg (by simp [mkSl]at hlen⊢;omega)]
  exact⟨vs,rfl,eR hp D⟩
theorem akU{P:Program}{fn:Func}{rs:List ResultVar}{a:Act}{w:World}{vs:List Value}(D:fn.results=rs.toArray)(h1:(rs.mapM (xj a)).run P w=.ok vs w):
  (results fn a.tmps).run P w=.ok (if h:vs.toArray.size=1 then vs.toArray[0]else .tuple vs.toArray) w:=by
 have e:(λr=>match r with|.tmp t=>pure (a.tmps.getD t undef) |.cell b t=>do loadVar t (<-asAddr (a.tmps.getD b undef)):ResultVar->Sem Value)=xj a:=by rfl
 unfold results;rw[Array.mapM_eq_mapM_toList];erw [e];simp_all
def UX(x:Nat)(P:Program)(rs:List ResultVar)(s:aF)(r:DS)(H1:ax):Prop:=
 ∀n E a w,E.H x=none->AU n E s a w->∃v,(∀fn:Func,fn.results=rs.toArray->(results fn a.tmps).run P w=.ok v w)/\∃c',Conc E c' (aj H1) w/\SR c' (aj H1) w v r
theorem Ta{q:Nat}{P:Program}{rs:List ResultVar}{sh:Shape}{s:aF}{x:cm sh}(hp:sh.sl.all (λp=>nZ p.2)=true)(h:AM q P rs sh s=some x):UX q P rs s (sF (mkD sh x).sl) (mkD sh x).hp:=by
 unfold AM at h;split at h<;>try (cases h;done)
 rename_i l N;split at h<;>try (cases h;done)
 rename_i hk;rw[au0]at hk;obtain⟨hk,O⟩:=hk;have hk:=apQ hk;rintro n E a w Y ⟨⟨c,h0,hC,D,hex,L⟩,hn,hd⟩;obtain⟨vs,Z,F⟩:=abZ hC D L N;obtain⟨c',J,M⟩:=aaf h E c h0 w (AP l vs) Y hC D hex (Zq F);exact⟨_,λfn U=>akU U Z,c',J,aps hp (abk (T:=λ_ _=>True) (α:=Unit) (λ_=>trivial) (hk.trans (mkSl_keys sh.sl x).symm) O F.len M)⟩
def Uw(P:Program)(rs:List ResultVar)(o:B5):dA->aF->Prop
 |.exit _,_=>False
 |.dx v,s=>∃D,o=.dx v D.hp/\sD s D
 |_,s=>∃r H1,o=.ret r H1/\UX 0 P rs s r H1
theorem abt{P:Program}{rs:List ResultVar}{a:Bool×Shape}{e:dA}{s:aF}{o:Ij a}(hp:a.2.sl.all (λp=>nZ p.2)=true)(h:Ni P rs a e s=some o):Uw P rs (Ub a o) e s:=by
 unfold Ni at h;split at h
 ·exact⟨_,_,rfl,Ta hp h⟩
 ·exact⟨_,_,rfl,Ta hp h⟩
 ·split at h<;>try (cases h;done)
  rename_i x D;cases h;exact⟨mkD _ x,rfl,tQ D⟩
 ·grind
theorem abr{P:Program}{rs:List ResultVar}:∀{l:List (Bool×Shape)} {e:dA} {s:aF} {o:JU l},(∀a∈l,a.2.sl.all (λp=>nZ p.2)=true)->Nh P rs l e s=some o->Uw P rs (ni l o) e s
 |[],_,_,_,_,h=>by cases h
 |a::[],_,_,_,hp,h=>abt (hp a aw4) h
 |a::b::r,e,s,o,hp,h=>by
  unfold Nh at h;split at h
  ·rename_i v D;cases h;exact abt (hp a aw4) D
  ·split at h<;>try (cases h;done)
   rename_i v D;cases h;exact abr (l:=b::r) (λa F=>hp a (ax5 _ F)) D
theorem abu{aB:Shape}{x:cm aB}(hk:oo 0 aB.sl=true){c:Cx}{w:World}{vals:List Value}(hC:Conc (cS w c (aj (mkD aB x).hp)) c (aj (mkD aB x).hp) w)(N:au (SR c (aj (mkD aB x).hp) w) vals ((mkD aB x).sl.map (·.2)))(m:Nat):
  gE (aB.sl.length+(m-aB.sl.length)) (cS w c (aj (mkD aB x).hp)) (mkD aB x) {tmps:=vals.toArray++aF7 (m-vals.toArray.size) undef,defers:=[]} w:=by
 have F:(mkD aB x).sl.map (·.1)=aB.sl.map (·.1):=mkSl_keys aB.sl x
 have hlen:(mkD aB x).sl.length=aB.sl.length:=by have:=congrArg List.length F;grind
 have Y:vals.length=aB.sl.length:=by rw[N.len,au1,hlen]
 refine⟨⟨c,hC,λt=>?_⟩,by simp [Y],rfl⟩
 by_cases U:t<(mkD aB x).sl.length
 ·have J:=Su (k:=0) hk F (au4 U);rw[ax2]at J;rw[J];obtain⟨u,L,O⟩:=N.get (i:=t) (y:=((mkD aB x).sl[t]).2) (by grind)
  have M:t<vals.length:=by omega
  rw[au4 M]at L;have:(vals.toArray++aF7 (m-vals.toArray.size) undef).getD t undef=u:=by simp [Array.getElem?_append,M,L]
  rw[this];exact O
 ·rw[LS]
  ·trivial
  ·rw[F]
   have:∀{q:List (Nat×SS)} {k:Nat},oo k q=true->∀j∈q.map (·.1),j<k+q.length:=by
    intro q
    induction q with
    |nil=>grind
    |cons p q Z=>
     intro k hk j D;unfold oo at hk;rw[au0]at hk;rw[List.map_cons,aw2]at D;rcases D with D|D
     ·simp_all
     ·have:=Z hk.2 j D;simp[av1];omega
   intro hm;have:=this hk t hm;omega
theorem atn{P:Program}{f:FuncId}{fn:Func}{code:Code}{rs:List ResultVar}{aB:Shape}{x:cm aB}{o:B5}(hf:P.funcs[f]? =some fn)(M:fn.body=some code)(N:fn.results=rs.toArray)(hk:oo 0 aB.sl=true)(h:k6 P (aB.sl.length+(fn.ntmps-aB.sl.length)) code (Uw P rs o) (mkD aB x)):fw P f ((mkD aB x).sl.map (·.2)) (mkD aB x).hp o:=by
 intro c w vals hC U;refine calls_of_wp hf M ?_;refine Code.wp_mono (λe J w' F=>?_) (h (cS w c (aj (mkD aB x).hp)) _ w (abu hk hC U fn.ntmps));have fin:∀{D},gE (aB.sl.length+(fn.ntmps-aB.sl.length)) (cS w c (aj (mkD aB x).hp)) D J w'->(∃r H1,o=.ret r H1/\UX 0 P rs D r H1)->J.defers=[]/\∃v,(results fn J.tmps).run P w'=.ok v w'/\∃c',pW (cS w c (aj (mkD aB x).hp)) (.returned v) c' w' o:=λL ⟨r,H1,e,O⟩=>by obtain⟨v,g1,c',g2,g3⟩:=O _ _ _ _ rfl L.p;subst e;exact⟨L.2.2,v,g1 fn N,c',v,rfl,g2,g3⟩
 cases e<;>first|exact F.elim|skip
 ·obtain⟨D,h1,h2⟩:=F;exact fin h1 h2
 ·obtain⟨D,h1,h2⟩:=F;exact h2.elim
 ·obtain⟨D,h1,h2⟩:=F;exact fin h1 h2
 ·obtain⟨D,v,rfl,h1,s2,rfl,h2⟩:=F;obtain⟨⟨c',g1,_⟩,_,g2⟩:=h2.told h1;exact⟨g2,c',rfl,g1⟩
noncomputable def xf(P:Program)(G:List (cM P))(D:List (Nat×bo))(f:FuncId)(aB:Shape)(outs:List (Bool×Shape)){A:Type}(g:JU outs->A)(x:cm aB):Option A:=
 match P.funcs[f]? with
 |some fn=>match fn.body with
  |some code=>match oo 0 aB.sl with
   |true=>exec P (aB.sl.length+(fn.ntmps-aB.sl.length)) G D code 1 A (mkD aB x) λe s=>match Nh P fn.results.toList outs e s with|some o=>some (g o)|none=>none
   |false=>none
  |none=>none
 |none=>none
theorem abh{P:Program}{G:List (cM P)}{F:List (Nat×bo)}{f:FuncId}{aB:Shape}{outs:List (Bool×Shape)}(eT:oy aB outs=true){A:Type}{g:JU outs->A}{h:A->JU outs}(L:∀o,h (g o)=o){x:cm aB}{y:A}(D:xf P G F f aB outs g x=some y):fw P f ((mkD aB x).sl.map (·.2)) (mkD aB x).hp (ni outs (h y)):=by
 unfold xf at D;split at D<;>try (cases D;done)
 rename_i fn hf;split at D<;>try (cases D;done)
 rename_i code hc;split at D<;>try (cases D;done)
 rename_i hk;refine atn (rs:=fn.results.toList) hf hc rfl hk (Tq P _ G F code 1 _ _ _ y D _ λe N hk=>?_);split at hk<;>try (cases hk;done)
 rename_i o M;cases hk;rw[L];unfold oy at eT;rw[au0]at eT;exact abr (λa J=>by have:=ax0.1 eT.2 a J;rw[au0]at this;exact this.2) M
def mkF{P:Program}(G:List (cM P))(D:List (Nat×bo))(f:FuncId)(aB:Shape)(outs:List (Bool×Shape)){A:Type}(g:JU outs->A)(h:A->JU outs)(L:∀o,h (g o)=o)(F:cm aB->Option A)(eT:oy aB outs=true)(J:∀x,xf P G D f aB outs g x=F x):cM P:=
 ⟨f,aB,outs,λR x k=>(F x).bind λr=>k (h r),eT,λR x k y M=>by obtain⟨r,h1,h2⟩:=ay0.1 M;exact⟨h r,h2,abh eT L (by rw[J];exact h1)⟩⟩
theorem wrap_i64{n:Int}(h: -9223372036854775808<=n/\n<=9223372036854775807):IntKind.i64.wrap n=n:=by unfold av4;simp [av9,IntKind.signed];omega
theorem wrap_u32{n:Int}(h:0<=n/\n<=4294967295):IntKind.u32.wrap n=n:=by unfold av4;simp [av9,IntKind.signed];omega
theorem wrap_u64{n:Int}(h:0<=n/\n<=18446744073709551615):IntKind.u64.wrap n=n:=by unfold av4;simp [av9,IntKind.signed];omega
theorem aaN{α:Type}(l:List α)(k:Nat):ag l (k:Int)=l[k]? :=rfl
theorem Mi{α:Type}{l:List α}{k:Nat}(h:k<l.length):ag l (k:Int)=some l[k]:=by rw[aaN,au4 h]
theorem aro{n:Nat}(h:n<=4611686018427387904):ab .i64 (n:Int):=by rw[Mg];omega
theorem bd{V R:Type}{f:V->Option (V⊕R)}{v v':V}(h:f v=some (.inl v')):ae f v=ae f v':=by rw[bI,h]
theorem bf{V R:Type}{f:V->Option (V⊕R)}{v:V}{r:R}(h:f v=some (.inr r)):ae f v=some r:=by rw[bI,h]
theorem K0:(∀{α β:Type} (a:α) (f:α->Option β),(some a).bind f=f a)/\(∀{α:Type} (a b:α),(bif true then a else b)=a)/\(∀{α:Type} (a b:α),(bif false then a else b)=b)/\
   (!true)=false/\(!false)=true/\(∀b,(true&&b)=b)/\(∀b,(false&&b)=false)/\(∀b,(b&&true)=b)/\(∀b,(b&&false)=false)/\(∀b,(true||b)=true)/\(∀b,(false||b)=b)/\(∀b,(b||true)=true)/\(∀b,(b||false)=b)/\
   (∀{p:Prop} (i:Decidable p),p-> @decide p i=true)/\(∀{p:Prop} (i:Decidable p),¬p-> @decide p i=false)/\
   (∀{α:Type} {p:Prop} (i:Decidable p) (a b:α),p->(if p then a else b)=a)/\(∀{α:Type} {p:Prop} (i:Decidable p) (a b:α),¬p->(if p then a else b)=b)/\
   (∀{c:Prop} (i:Decidable c) {R:Type} (k:Option R),c->J c k=k)/\(∀n:Int,ab .i64 n=(-9223372036854775808<=n/\n<=9223372036854775807))/\
   (∀{α R:Type} (l:List α) (k:Nat) (f:α->Option R) (h:k<l.length),(ag l (k:Int)).bind f=f l[k])/\(∀{α R:Type} (l:List α) (f:α->Option R) (h:0<l.length),(ag l 0).bind f=f l[0])/\
   (∀{α R:Type} (l:List α) (k:Nat) (f:α->Option R) (h:k<l.length),(l[k]?).bind f=f l[k])/\
   (∀n:Nat,(n:Int).toNat=n)/\(∀k:Nat,(k:Int)+1=((k+1:Nat):Int))/\(∀{α:Type} (a:α) (l:List α),(a::l).length=l.length+1)/\(∀{α:Type},([]:List α).length=0)/\(∀i:Int,(i<i)=False)/\(false=true)=False/\(¬False)=True:=
 ⟨λ_ _=>rfl,λ_ _=>rfl,λ_ _=>rfl,rfl,rfl,λ_=>rfl,λ_=>rfl,aD4,Bool.and_false,λ_=>rfl,λ_=>rfl,Bool.or_true,Bool.or_false,
  λ_ h=>decide_eq_true h,λ_ h=>decide_eq_false h,λ_ _ _ h=>if_pos h,λ_ _ _ h=>if_neg h,λ_ _ _ h=>if_pos h,Mg,
  λ_ _ _ h=>by rw[Mi h];rfl,λl _ h=>by rw[show ag l 0=some l[0] from Mi (k:=0) h];rfl,λ_ _ _ h=>by rw[au4 h];rfl,
  av0,λ_=>rfl,λ_ _=>rfl,rfl,λi=>by simp,by simp,by simp⟩
end
end Go.Proofs.YtejhifnjgoclpaaGreatDoor.Fx
namespace Go.Proofs.YtejhifnjgoclpaaGreatDoor
open Go.RowKit
def dQ(l:List UInt8)(i:Nat):Nat:=(l.getD i 0).toNat
theorem wP(l:List UInt8)(i:Nat)(h:i<l.length):dQ l i=(l[i]).toNat:=by grind[dQ]
theorem aqr(l:List UInt8)(n i:Nat)(h:i<n):dQ (l.take n) i=dQ l i:=by grind[dQ]
theorem SC(l:List UInt8)(a b:Nat):(ByteArray.mk l.toArray).extract a b=⟨((l.take b).drop a).toArray⟩:=by apply ByteArray.ext;rw[ByteArray.data_extract];apply Array.toList_inj.1;rw[Array.toList_extract,List.drop_take]
theorem abX(l:List UInt8)(a:Nat):(ByteArray.mk l.toArray).extract a l.length=⟨(l.drop a).toArray⟩:=by rw[SC,ax6]
def al(p:Nat->Bool)(l:List UInt8)(k:Nat):Nat:=k+((l.drop k).takeWhile λc=> !p c.toNat).length
theorem FA(p:Nat->Bool)(l:List UInt8)(k:Nat):k<=al p l k:=Nat.le_add_right _ _
theorem r5(p:Nat->Bool)(l:List UInt8)(k:Nat)(h:k<=l.length):al p l k<=l.length:=by have:=List.Sublist.length_le (List.takeWhile_sublist (λc:UInt8=> !p c.toNat) (l:=l.drop k));rw[ay3]at this;unfold al;omega
theorem Fh(p:Nat->Bool)(l:List UInt8)(k:Nat)(h:k<l.length)(hp:p (dQ l k)=true):al p l k=k:=by unfold al;rw[av6 h,List.takeWhile_cons,<-wP l k h,hp];rfl
theorem EL(p:Nat->Bool)(l:List UInt8)(k:Nat)(h:k<l.length)(hp:p (dQ l k)=false):al p l k=al p l (k+1):=by unfold al;rw[av6 h,List.takeWhile_cons,<-wP l k h,hp];simp[if_true];omega
theorem R5(p:Nat->Bool)(l:List UInt8)(k:Nat)(h:l.length<=k):al p l k=k:=by unfold al;rw[az3 h];rfl
theorem XT(p:Nat->Bool)(l:List UInt8)(n:Nat):∀(k i:Nat),i-k=n->k<=i->i<al p l k->p (dQ l i)=false:=by
 induction n with
 |zero=>
  intro k i h0 h1 h2;obtain rfl:k=i:=by omega
  by_cases D:k<l.length
  ·cases hp:p (dQ l k)
   ·rfl
   ·rw[Fh p l k D hp]at h2;omega
  ·rw[R5 p l k (by omega)]at h2;omega
 |succ n F=>
  intro k i h0 h1 h2;by_cases D:k<l.length
  ·cases hp:p (dQ l k)
   ·rw[EL p l k D hp]at h2;exact F (k+1) i (by omega) (by omega) h2
   ·rw[Fh p l k D hp]at h2;omega
  ·rw[R5 p l k (by omega)]at h2;omega
theorem abq(p:Nat->Bool)(l:List UInt8)(n:Nat):∀k,al p l k-k=n->al p l k<l.length->p (dQ l (al p l k))=true:=by
 induction n with
 |zero=>
  intro k h0 h2;have h1:=FA p l k;cases hp:p (dQ l k)
  ·have:=EL p l k (by omega) hp
   have:=FA p l (k+1);omega
  ·grind
 |succ n D=>
  intro k h0 h2;have h1:=FA p l k;cases hp:p (dQ l k)
  ·have e:=EL p l k (by omega) hp
   grind
  ·have:=Fh p l k (by omega) hp
   omega
def gJ(c:UInt8)(x:Nat):Bool:=x==c.toNat
def bk(c:Nat):Bool:=c==32||c==9
def iV(c:Nat):Bool:=decide (c<33)||decide (126<c)
theorem zU(t:List UInt8)(k:Nat)(h:k<t.length)(D:bk (dQ t k)=false):k<al bk t k:=by rw[EL _ _ _ h D];have:=FA bk t (k+1);omega
inductive NV where
 |bad (code col:Nat)
 |ok (ws:List (List UInt8)) (cs:List Nat)
def scan(t:List UInt8)(k:Nat)(ws:List (List UInt8))(cs:List Nat):NV:=
 if h:k<t.length then
  if D:bk (dQ t k)=true then scan t (k+1) ws cs
  else
   if ws.length=20\/80<al bk t k-k then .bad 2 (k+1)
   else
    if al iV (t.take (al bk t k)) k<al bk t k then .bad 1 (al iV (t.take (al bk t k)) k+1)
    else scan t (al bk t k) (ws++[(t.take (al bk t k)).drop k]) (cs++[k+1])
 else .ok ws cs
termination_by t.length-k
decreasing_by
 ·omega
 ·have:=zU t k h (by simpa using D);omega
theorem wA(t:List UInt8)(k:Nat)(ws:List (List UInt8))(cs:List Nat)(h:¬k<t.length):scan t k ws cs=.ok ws cs:=by rw[scan,dif_neg h]
theorem Ek(t:List UInt8)(k:Nat)(ws:List (List UInt8))(cs:List Nat)(h:k<t.length)(D:bk (dQ t k)=true):scan t k ws cs=scan t (k+1) ws cs:=by rw[scan,dif_pos h,dif_pos D]
theorem wi(t:List UInt8)(k:Nat)(ws:List (List UInt8))(cs:List Nat)(h:k<t.length)(D:bk (dQ t k)=false)(F:ws.length=20\/80<al bk t k-k):scan t k ws cs=.bad 2 (k+1):=by rw[scan,dif_pos h,dif_neg (by simp [D]),if_pos F]
theorem Fk(t:List UInt8)(k:Nat)(ws:List (List UInt8))(cs:List Nat)(h:k<t.length)(D:bk (dQ t k)=false)(F:¬(ws.length=20\/80<al bk t k-k))(J:al iV (t.take (al bk t k)) k<al bk t k):
  scan t k ws cs=.bad 1 (al iV (t.take (al bk t k)) k+1):=by
 rw[scan,dif_pos h,dif_neg (by simp [D]),if_neg F,if_pos J]
theorem EP(t:List UInt8)(k:Nat)(ws:List (List UInt8))(cs:List Nat)(h:k<t.length)(D:bk (dQ t k)=false)(F:¬(ws.length=20\/80<al bk t k-k))(J:¬al iV (t.take (al bk t k)) k<al bk t k):
  scan t k ws cs=scan t (al bk t k) (ws++[(t.take (al bk t k)).drop k]) (cs++[k+1]):=by
 rw[scan,dif_pos h,dif_neg (by simp [D]),if_neg F,if_neg J]
def dO(c:Nat):Bool:=c==10
def mA(c:Nat):Bool:=c==35
def bare(l:List UInt8):List UInt8:=l.take (al mA l 0)
def nX(l:List UInt8):NV:=scan (bare l) 0 [] []
structure pw where
 no:Nat
 ws:List (List UInt8)
 cs:List Nat
inductive UY where
 |bad (code line col:Nat)
 |ok (ls:List pw)
def fi(D:Nat)(rest:List UInt8)(no:Nat)(out:List pw):UY:=
 if h:rest=[]then .ok out
 else if D<no then .bad 2 no 0
 else match nX (rest.take (al dO rest 0))with
  |.bad c F=>.bad c no F
  |.ok ws cs=>fi D (rest.drop (al dO rest 0+1)) (no+1) (if ws.length=0 then out else out++[⟨no,ws,cs⟩])
termination_by rest.length
decreasing_by
 have:0<rest.length:=ay5.2 h;rw[ay3];omega
theorem K2(D no:Nat)(out:List pw):fi D [] no out=.ok out:=by rw[fi,dif_pos rfl]
theorem KL(D:Nat)(rest:List UInt8)(no:Nat)(out:List pw)(h:rest≠[])(hm:D<no):fi D rest no out=.bad 2 no 0:=by rw[fi,dif_neg h,if_pos hm]
theorem K3(F:Nat)(rest:List UInt8)(no:Nat)(out:List pw)(h:rest≠[])(hm:¬F<no){c D:Nat}(hs:nX (rest.take (al dO rest 0))=.bad c D):fi F rest no out=.bad c no D:=by rw[fi,dif_neg h,if_neg hm,hs]
theorem Lz(D:Nat)(rest:List UInt8)(no:Nat)(out:List pw)(h:rest≠[])(hm:¬D<no){ws:List (List UInt8)}{cs:List Nat}(hs:nX (rest.take (al dO rest 0))=.ok ws cs):
  fi D rest no out=fi D (rest.drop (al dO rest 0+1)) (no+1) (if ws.length=0 then out else out++[⟨no,ws,cs⟩]):=by
 rw[fi,dif_neg h,if_neg hm,hs]
theorem ao9(t:List UInt8)(n:Nat):∀(k:Nat) (ws:List (List UInt8)) (cs:List Nat),t.length-k<=n->ws.length=cs.length->ws.length<=20->∀D F,scan t k ws cs=.ok D F->D.length=F.length/\D.length<=20:=by
 induction n with
 |zero=>
  intro k ws cs Y L M D F h;rw[wA t k ws cs (by omega)]at h
  injection h with h1 h2;subst h1;subst h2;exact⟨L,M⟩
 |succ n U=>
  intro k ws cs Y L M D F h;by_cases hk:k<t.length
  ·cases J:bk (dQ t k)
   ·by_cases N:ws.length=20\/80<al bk t k-k
    ·rw[wi t k ws cs hk J N]at h;cases h
    ·by_cases O:al iV (t.take (al bk t k)) k<al bk t k
     ·rw[Fk t k ws cs hk J N O]at h;cases h
     ·rw[EP t k ws cs hk J N O]at h;have:=zU t k hk J;exact U _ _ _ (by omega) (by simp [L]) (by simp;omega) D F h
   ·rw[Ek t k ws cs hk J]at h;exact U _ _ _ (by omega) L M D F h
  ·rw[wA t k ws cs hk]at h;injection h with h1 h2;subst h1;subst h2;exact⟨L,M⟩
theorem anv{l:List UInt8}{ws:List (List UInt8)}{cs:List Nat}(h:nX l=.ok ws cs):ws.length=cs.length/\ws.length<=20:=
 ao9 _ _ 0 [] [] (at9 _) rfl (by simp) ws cs h
end Go.Proofs.YtejhifnjgoclpaaGreatDoor
namespace Go.Proofs.YtejhifnjgoclpaaGreatDoor.Fx
open Go.RowKit
set_option maxRecDepth 1000000
noncomputable section
def nt(l:List UInt8)(c:UInt8):List UInt8×List UInt8×Bool:=(l.take (al (gJ c) l 0),l.drop (al (gJ c) l 0+1),decide (al (gJ c) l 0<l.length))
def lp(l s:List UInt8):Option (List UInt8×List UInt8×Bool):=
 match s with
 |[c]=>if l.length<=9223372036854775807 then some (nt l c)else none
 |_=>none
abbrev hf(x:Int):Int:=av4 .i64 ((av4 .u64 x).fdiv (2^(min (1:Int).toNat (av9 .u64))))
def pe(v:Value):Option (Int×Int×Int):=
 match v with
 |.iface t (.agg ⟨[.int .i64 c,.int .i64 l,.int .i64 k]⟩)=>if t=295 then some (c,l,k)else none
 |_=>none
def gR{α β:Type}(B:(α->Option β)->α->Option β):Nat->α->Option β
 |0=>λ_=>none
 |n+1=>B (gR B n)
noncomputable def pG{α β:Type}(B:(α->Option β)->α->Option β)(x:α):Option β:=
 open Classical in if h:∃n r,gR B n x=some r then gR B h.choose x else none
theorem aou{α β:Type}{B:(α->Option β)->α->Option β}{x:α}{r:β}(h:pG B x=some r):∃n,gR B n x=some r:=by
 unfold pG at h;split at h
 ·grind
 ·grind
theorem abU{α β:Type}{B:(α->Option β)->α->Option β}(F:∀f g:α->Option β,(∀x r,f x=some r->g x=some r)->∀x r,B f x=some r->B g x=some r){x:α}{r:β}{n:Nat}(h:gR B n x=some r):pG B x=some r:=by
 have step:∀n x r,gR B n x=some r->gR B (n+1) x=some r:=by
  intro n
  induction n with
  |zero=>intro x r h;cases h
  |succ n D=>intro x r h;exact F _ _ D x r h
 have up:∀m n x r,gR B n x=some r->gR B (n+m) x=some r:=by
  intro m
  induction m with
  |zero=>grind
  |succ m D=>grind
 have hex:∃n r,gR B n x=some r:=⟨n,r,h⟩;unfold pG;rw[dif_pos hex];obtain⟨L,J⟩:=hex.choose_spec;have h1:=up hex.choose _ _ _ h;grind
end
end Go.Proofs.YtejhifnjgoclpaaGreatDoor.Fx
namespace Go.Proofs.YtejhifnjgoclpaaGreatDoor
open Go.RowKit
theorem mX{k:IntKind}{a b:Int}(h:a=b):Ending.returned (.int k a)=.returned (.int k b):=by rw[h]
theorem ape{a b:Bool}(h:a=b):Ending.returned (.bool a)=.returned (.bool b):=by rw[h]
theorem Sw(l:List UInt8)(i:Nat)(h:i<l.length):(ByteArray.mk l.toArray)[i]! =l[i]:=by
 have hs:i<(ByteArray.mk l.toArray).size:=by simpa[ByteArray.size]using h
 rw[getElem!_pos (ByteArray.mk l.toArray) i hs,ByteArray.getElem_eq_getElem_data];simp
theorem TP(c d:UInt8):(d==c)=gJ c d.toNat:=by unfold gJ;rw[aB9];simp only[beq_iff_eq];exact⟨λh=>by rw[h],λh=>UInt8.toNat_inj.1 h⟩
theorem alu(l:List UInt8)(c:UInt8):firstIdx ⟨l.toArray⟩ c=if al (gJ c) l 0<l.length then(al (gJ c) l 0:Int)else-1:=by
 have hs:(ByteArray.mk l.toArray).size=l.length:=by simp [ByteArray.size]
 unfold firstIdx;rw[hs];by_cases h:al (gJ c) l 0<l.length
 ·rw[if_pos h]
  have:(aA2 l.length).find? (λi=>(ByteArray.mk l.toArray)[i]! ==c)=some (al (gJ c) l 0):=by
   rw[List.find?_range_eq_some];refine⟨?_,List.mem_range.2 h,λj D=>?_⟩
   ·rw[Sw l _ h,TP,<-wP l _ h,abq (gJ c) l _ 0 rfl h]
   ·rw[Sw l j (by omega),TP,<-wP l j (by omega),XT (gJ c) l _ 0 j rfl (au2 _) D];rfl
  rw[this]
 ·rw[if_neg h]
  have:(aA2 l.length).find? (λi=>(ByteArray.mk l.toArray)[i]! ==c)=none:=by
   rw[List.find?_eq_none];intro j D;have D:=List.mem_range.1 D;rw[Sw l j D,TP,<-wP l j D,XT (gJ c) l _ 0 j rfl (au2 _) (by have:=r5 (gJ c) l 0 (by omega);omega)]
   simp
  rw[this]
theorem Xv(l:List UInt8)(c:UInt8)(w:World):(callFunc 446 #[.string ⟨l.toArray⟩,.int .u8 c.toNat]).run at1 w=.ok (.value (.int .i64 (if al (gJ c) l 0<l.length then(al (gJ c) l 0:Int)else-1))) w:=by
 have h:=run_callFunc_extern (P:=at1) (f:=446) Tryz.func446 (by kernel_rfl) (by kernel_rfl) (by kernel_rfl) (e:=Extern.BytealgIndexByte.indexByte) (by kernel_rfl) #[.string ⟨l.toArray⟩,.int .u8 c.toNat] w
 rw[h,run_indexByte_string];show Result.ok (Next.value (Value.int .i64 (firstIdx ⟨l.toArray⟩ _))) w=_;have e:(c.toNat:Int).toNat.toUInt8=c:=by simp
 rw[e,alu]
theorem ang{a b c d:ByteArray}{x y:Bool}(h1:a=c)(h2:b=d)(D:x=y):Ending.returned (.tuple #[.string a,.string b,.bool x])=.returned (.tuple #[.string c,.string d,.bool y]):=by rw[h1,h2,D]
set_option maxHeartbeats 400000 in
theorem asu (l:List UInt8) (c:UInt8) (w:World) (hl:l.length<=9223372036854775807) (h:Hid (¬al (gJ c) l 0<l.length)):
  Calls at1 233 #[.string ⟨l.toArray⟩,.string ⟨#[c]⟩] w λe w'=>e=.returned (.tuple #[.string ⟨l.toArray⟩,.string ⟨#[]⟩,.bool false])/\w=w':=by
 have hne:([c]==l)=false:=by rw[beq_eq_false_iff_ne];rintro rfl;refine h.out ?_;rw[Fh _ _ _ (by simp) (by unfold gJ dQ;simp)];simp
 have hix:∀w:World,(callFunc 446 #[.string ⟨l.toArray⟩,.int .u8 (((ByteArray.mk #[c])[0]'(by simp [ByteArray.size])).toNat:Int)]).run at1 w=_:=Xv l c
 rw[if_neg h.out]at hix
 go_enter Tryz.func233,Tryz.ntmps233
 go_wp2
 go_ret3
 exact⟨rfl,rfl⟩
set_option maxHeartbeats 400000 in
theorem arG (l:List UInt8) (c:UInt8) (k:Nat) (w:World) (hl:l.length<=9223372036854775807) (hk:Hid (al (gJ c) l 0=k)) (h:k<l.length):
  Calls at1 233 #[.string ⟨l.toArray⟩,.string ⟨#[c]⟩] w λe w'=>e=.returned (.tuple #[.string ⟨(l.take k).toArray⟩,.string ⟨(l.drop (k+1)).toArray⟩,.bool true])/\∃m,w'=w.drewN m:=by
 have hix:∀w:World,(callFunc 446 #[.string ⟨l.toArray⟩,.int .u8 (((ByteArray.mk #[c])[0]'(by simp [ByteArray.size])).toNat:Int)]).run at1 w=_:=Xv l c
 rw[hk.out,if_pos h]at hix;have HX1:=au3 (SC l 0 k);have HX2:=au3 (abX l (k+1));have f1:(0:Int)<=(k:Int):=by omega
 have f2:(k:Int)<=(l.length:Int):=by omega
 have f3:(k:Int)+1<=(l.length:Int):=by omega
 have f4:(0:Int)<=(k:Int)+1:=by omega
 have f5:((k:Int)+1).toNat=k+1:=by omega
 by_cases he:[c]=l
 ·subst he;have hk0:k=0:=by simp at h;omega
  subst hk0
  go_enter Tryz.func233,Tryz.ntmps233
  go_wp2
  go_quiet (fail)
  go_wp2
  go_ret3
  exact⟨rfl,_,rfl⟩
 ·have hne:([c]==l)=false:=beq_eq_false_iff_ne.2 he
  go_enter Tryz.func233,Tryz.ntmps233
  go_wp2
  go_quiet (fail)
  go_wp2
  go_ret3
  exact⟨ang HX1.out HX2.out rfl,_,rfl⟩
end Go.Proofs.YtejhifnjgoclpaaGreatDoor
namespace Go.Proofs.YtejhifnjgoclpaaGreatDoor.Fx
open Go.RowKit
set_option maxRecDepth 1000000
noncomputable section
def mkRec{P:Program}(G:List (cM P))(F:List (Nat×bo))(f:FuncId)(aB:Shape)(outs:List (Bool×Shape)){A:Type}(g:JU outs->A)(h:A->JU outs)(L:∀o,h (g o)=o)(B:(cm aB->Option A)->cm aB->Option A)(eT:oy aB outs=true)
  (J:∀(rc:cm aB->Option A) (ok:∀(R:Type) (x:cm aB) (k:JU outs->Option R) (y:R),((rc x).bind λr=>k (h r))=some y->∃o,k o=some y/\fw P f ((mkD aB x).sl.map (·.2)) (mkD aB x).hp (ni outs o)) (x:cm aB),
   xf P (⟨f,aB,outs,λR x k=>(rc x).bind λr=>k (h r),eT,ok⟩::G) F f aB outs g x=B rc x):cM P:=
 ⟨f,aB,outs,λR x k=>(pG B x).bind λr=>k (h r),eT,λR x k y D=>by
  have main:∀n (x:cm aB) r,gR B n x=some r->fw P f ((mkD aB x).sl.map (·.2)) (mkD aB x).hp (ni outs (h r)):=by
   intro n
   induction n with
   |zero=>intro x r h;cases h
   |succ n O=>
    intro x r N;have ok:∀(R:Type) (x:cm aB) (k:JU outs->Option R) (y:R),((gR B n x).bind λr=>k (h r))=some y->∃o,k o=some y/\fw P f ((mkD aB x).sl.map (·.2)) (mkD aB x).hp (ni outs o):=λR x k y D=>by obtain⟨r,h1,h2⟩:=ay0.1 D;exact⟨h r,h2,O x r h1⟩
    exact abh eT L ((J (gR B n) ok x).trans N)
  obtain⟨r,h1,h2⟩:=ay0.1 D;obtain⟨n,M⟩:=aou h1;exact⟨h r,h2,main n x r M⟩⟩
def mkB{P:Program}(f:FuncId)(aB:Shape)(outs:List (Bool×Shape)){A:Type}(g:A->JU outs)(D:cm aB->Option A)(eT:oy aB outs=true)(h:∀x r,D x=some r->fw P f ((mkD aB x).sl.map (·.2)) (mkD aB x).hp (ni outs (g r))):cM P:=
 ⟨f,aB,outs,λR x k=>(D x).bind λr=>k (g r),eT,λR x k y F=>by obtain⟨r,h1,h2⟩:=ay0.1 F;exact⟨g r,h2,h x r h1⟩⟩
theorem Conc.hand{E:cP}{c:Cx}{h:Hp}{w:World}(hC:Conc E c h w):Conc (cS w c h) c h w:=
 ⟨hC.obj,hC.inj,hC.kZ,hC.lt,cS.ko hC.inj hC.kZ (λk b e=>⟨λq=>by subst q;exact hC.ac5 e,hC.blt e⟩) hC.OB,λ_ _ h=>h,λ_ _ h=>.inl h,λk b e=>cS.own e,Ext.refl _ _,λk o e=>by
  have e:(if 1000<=k/\k<3000 then h k else none)=some o:=e
  split at e<;>try (cases e;done)
  rename_i D;exact⟨D,o,e,(OL.refl false _ _).pl⟩⟩
theorem Conc.leave{E:cP}{c c':Cx}{h h':Hp}{w w':World}(hC:Conc E c h w)(D:Conc (cS w c h) c' h' w'):Conc E c' h' w':=by
 have O:∀b,(cS w c h).F b->E.F b\/E.w.heap.size<=b:=λb ⟨k,h1,hk⟩=>hC.fr h1 hk;refine⟨D.obj,D.inj,D.kZ,D.lt,hC.ko,λb i h=>D.le b i (hC.le b i h),λb i h=>?_,λk b h1=>?_,hC.ext.trans D.ext λb h1 h2=>?_,λk o e=>?_⟩
 ·rcases D.new b i h with h|h|h
  ·exact hC.new b i h
  ·exact .inr (.inl (aw8 hC.ext.size h))
  ·grind
 ·rcases D.own k b h1 with⟨h,U,h2,J⟩|⟨h,q|q⟩
  ·rcases hC.own U b J with⟨_,q⟩|⟨q,_⟩
   ·exact .inl ⟨h,q⟩
   ·grind
  ·exact .inr ⟨h,O b q⟩
  ·exact .inr ⟨h,.inr (aw8 hC.ext.size q)⟩
 ·grind
 ·obtain⟨L,M,h1,h2⟩:=hC.ga k o e;obtain⟨_,Y,J,N⟩:=D.ga k M (by show(if 1000<=k/\k<3000 then h k else none)=some M;rw[if_pos L];exact h1)
  exact⟨L,Y,J,h2.trans N⟩
theorem Conc.df{E:cP}{c:Cx}{h:Hp}{w:World}(d:List Deferred)(q:Conc E c h w):Conc {E with df:=d} c h w:=
 ⟨q.obj,q.inj,q.kZ,q.lt,q.ko,q.le,q.new,q.own,q.ext,q.ga⟩
theorem fw.pure{P:Program}{f:FuncId}{args:List DS}{r:DS}(h:∀(A:Nat->Nat->Prop) (w:World) (vals:List Value),(∀b i,A b i->b<w.heap.size)->TabOk w.heap[tabB]? ->au (SR ⟨λ_=>undef,A⟩ fq w) vals args->
  Calls P f vals.toArray w λe w'=>∃v D,e=.returned v/\gv w w'/\(∀b i,A b i->D b i)/\(∀b i,D b i->A b i\/(w.heap.size<=b/\b<w'.heap.size))/\SR ⟨λ_=>undef,D⟩ fq w' v r):fw P f args [] (.ret r []):=by
 intro c w vals hC M
 have F:∀{c c':Cx} {w:World},c.A=c'.A->∀u x,CR c fq w u x->CR c' fq w u x:=λ{c c' w} e u x hu=>by
  cases x with
  |ow k g p=>obtain⟨_,_,e,_⟩:=hu;cases e
  |ptr k i=>obtain⟨_,_,e,_⟩:=hu;cases e
  |_=>unfold CR at hu⊢;rw[<-e];omega
 refine(h c.A w vals hC.lt hC.OB (M.mono λu x q=>SR.imp (F (c:=c) (c':=⟨λ_=>undef,c.A⟩) rfl) q)).mono ?_;rintro e w' ⟨v,D,rfl,J,h1,h2,L⟩;obtain⟨N,_⟩:=hC.A9 J D h1 h2;exact⟨⟨c.m,D⟩,v,rfl,N,SR.imp (F (c:=⟨λ_=>undef,D⟩) (c':=⟨c.m,D⟩) rfl) L⟩
theorem fw.run{P:Program}{f:FuncId}{args:List DS}{r:DS}(hf:fw P f args [] (.ret r [])){A:Nat->Nat->Prop}{w:World}{vals:List Value}(F:∀b i,A b i->b<w.heap.size)(J:TabOk w.heap[tabB]?)(L:au (SR ⟨λ_=>undef,A⟩ fq w) vals args):
  Calls P f vals.toArray w λe w'=>∃v c',e=.returned v/\gv w w'/\SR c' fq w' v r:=by
 have D:∀k b,¬Bl ⟨λ_=>undef,A⟩ fq k b:=λk b ⟨⟨o,e⟩,_⟩=>by cases e
 have hC:Conc (cS w ⟨λ_=>undef,A⟩ fq) ⟨λ_=>undef,A⟩ fq w:=⟨λk o e=>(by cases e),λk M b e=>(D _ _ e).elim,λk b i e=>(D _ _ e).elim,F,cS.ko (λk M b e=>(D _ _ e).elim) (λk b i e=>(D _ _ e).elim) (λk b e=>(D _ _ e).elim) J,λ_ _ q=>q,λ_ _ q=>.inl q,λk b e=>(D _ _ e).elim,Ext.refl _ _,λk o e=>by
  have e:(if 1000<=k/\k<3000 then none else none)=some o:=e
  split at e<;>cases e⟩
 refine(hf ⟨λ_=>undef,A⟩ w vals hC L).mono ?_;rintro e w' ⟨c',v,rfl,g1,g2⟩;exact⟨v,c',rfl,g1.ext.mono λb ⟨k,_,q⟩=>D _ _ q,g2⟩
theorem LY{c:Cx}{h:Hp}{w:World}(p:ByteArray):CR c h w (.string p) (.v .str p.data.toList):=⟨rfl,by show Value.string ⟨p.data.toList.toArray⟩=.string p;simp⟩
def OK:List (Sum DC (List DC))->Option (List Value)
 |[]=>some []
 |x::r=>match vo (VV x),OK r with|some v,some l=>some (v::l)|_,_=>none
def OM:DS->Option Value
 |.eR l=>match OK l with|some l=>some (.tuple l.toArray)|none=>none
 |x=>vo x
def HP:List DS->Option (List Value)
 |[]=>some []
 |x::r=>match vo x,HP r with|some v,some l=>some (v::l)|_,_=>none
section
variable {c:Cx} {h:Hp} {w:World}
theorem aaX{x:DC}{v:Value}(e:sI x=some v):CR c h w v x:=by unfold sI at e;split at e<;>first|(cases e;done)|(cases e;first|exact rfl|exact⟨rfl,rfl⟩)
theorem SD:∀{l:List DC} {vs:List Value},fG l=some vs->au (CR c h w) vs l
 |[],_,e=>by cases e;exact .nil
 |x::r,_,e=>by
  unfold fG at e;split at e<;>try (cases e;done)
  cases e;exact .cons (aaX (by omega)) (SD (by omega))
theorem FI{x:DS}{v:Value}(e:vo x=some v):SR c h w v x:=by
 unfold vo at e;split at e
 ·exact aaX e
 ·split at e<;>try (cases e;done)
  cases e;exact⟨_,rfl,SD (by omega)⟩
 ·grind
theorem arz{x:DS}{v:Value}(e:OM x=some v):SR c h w v x:=by
 have key:∀{l:List (Sum DC (List DC))} {vs:List Value},OK l=some vs->au (UR c h w) vs l:=by
  intro l
  induction l with
  |nil=>intro vs e;cases e;exact .nil
  |cons x r J=>
   intro vs e;unfold OK at e;split at e<;>try (cases e;done)
   rename_i F D;cases e;have:=FI (c:=c) (h:=h) (w:=w) F;exact .cons (by cases x<;>exact this) (J D)
 unfold OM at e;split at e
 ·split at e<;>try (cases e;done)
  cases e;exact⟨_,rfl,key (by omega)⟩
 ·exact FI e
theorem TX:∀{l:List DS} {vs us:List Value},HP l=some vs->au (SR c h w) us l->us=vs
 |[],_,_,e,.nil=>Option.some.inj e
 |x::r,_,_,e,.cons h1 h2=>by
  unfold HP at e;split at e<;>try (cases e;done)
  rename_i F D;injection e with e;rw[<-e,FQ h1 F,TX D h2]
end
theorem abR{P:Program}{f:FuncId}{args:List DS}{d:DS}(xs:List Value)(r:Value)(D:HP args=some xs)(J:OM d=some r)(h:∀w,TabOk w.heap[tabB]? ->Calls P f xs.toArray w λe w'=>e=.returned r/\Below w.heap.size w w'):fw P f args [] (.ret d []):=
 fw.pure λA w vals _ L M=>by obtain rfl:=TX D M;exact(h w L).mono (by rintro e w' ⟨rfl,F⟩;exact⟨_,A,rfl,gv.qv F,λ_ _ h=>h,λ_ _ h=>.inl h,arz J⟩)
theorem ue{P:Program}{f:FuncId}{args:List DS}{d:DS}(xs:List Value)(r:Value)(D:HP args=some xs)(F:OM d=some r)(h:∀w,Calls P f xs.toArray w λe w'=>e=.returned r/\Below w.heap.size w w'):fw P f args [] (.ret d []):=abR xs r D F λw _=>h w
theorem QZ{w w':World}(h:w=w'):Below w.heap.size w w':=by subst h;exact Below.refl _ _
theorem tU{α β:Type}{R:α->β->Prop}{l:List α}{a:β}(h:au R l [a]):∃x,l=[x]/\R x a:=by
 cases h with
 |cons h t=>cases t;grind
theorem aqB{α β:Type}{R:α->β->Prop}{l:List α}{a b:β}(h:au R l [a,b]):∃x y,l=[x,y]/\R x a/\R y b:=by
 cases h with
 |cons h t=>obtain⟨y,rfl,h2⟩:=tU t;grind
end
end Go.Proofs.YtejhifnjgoclpaaGreatDoor.Fx
namespace Go.Proofs.YtejhifnjgoclpaaGreatDoor
open Go.RowKit
open Go.PlainAid (bt)
theorem ao5{α:Type}{P:List α->Prop}(h0:P [])(hs:∀l c,P l->P (l++[c]))(l:List α):P l:=by
 have h:∀r:List α,P r.reverse:=by
  intro r
  induction r with
  |nil=>exact h0
  |cons c r D=>rw[List.reverse_cons];exact hs _ c D
 have:=h l.reverse
 rwa [List.reverse_reverse]at this
def dv(c:Nat):Nat:=if 48<=c/\c<=57 then c-48 else if 97<=c/\c<=102 then c-87 else 16
def n5(l:List UInt8):Nat:=l.foldl (λn c=>n*16+dv c.toNat) 0
def mY(l:List UInt8):Bool:=l.all λc=>dv c.toNat<16
def kO(s:ByteArray):Bool:=s.size==16&&mY s.data.toList
def sn(s:ByteArray):Nat:=if kO s then n5 s.data.toList else 0
def wV(d:Nat):UInt8:=if d<10 then UInt8.ofNat (48+d)else UInt8.ofNat (87+d)
def qO(n k:Nat):List UInt8:=(aA2 k).map λi=>wV (n/16^(15-i)%16)
def Uj(n:Nat):List UInt8:=qO n 16
theorem ank(s:ByteArray)(k:Nat)(h:k<s.size):s.data.toList.take (k+1)=s.data.toList.take k++[s[k]]:=by rw[List.take_succ_eq_append_getElem (by simpa using h)];rfl
theorem acM(s:ByteArray)(k:Nat)(h:k<s.size):bt s k=(s[k].toNat:Int):=by unfold bt;rw[dif_pos h]
theorem Yc(l:List UInt8)(c:UInt8):n5 (l++[c])=n5 l*16+dv c.toNat:=by simp [n5]
theorem Yd(l:List UInt8)(c:UInt8):mY (l++[c])=(mY l&&decide (dv c.toNat<16)):=by simp [mY]
theorem amG(n k:Nat):qO n (k+1)=qO n k++[wV (n/16^(15-k)%16)]:=by simp [qO,List.range_succ]
theorem aol(l:List UInt8)(h:mY l=true):n5 l<16^l.length:=by
 revert h;refine ao5 (P:=λl=>mY l=true->n5 l<16^l.length) (by simp [n5]) ?_ l
 intro l c D h;rw[Yd]at h;simp at h;have:=D h.1;rw[Yc];simp only[au5,List.length_singleton,aC0];omega
theorem alr(s:ByteArray)(k:Nat)(h:k<s.size)(F:¬dv s[k].toNat<16):kO s=false:=by
 have:mY s.data.toList=false:=by
  rw[Bool.eq_false_iff];intro D;have:=(ax0.1 D) s[k] (by simp [ByteArray.getElem_eq_getElem_data])
  simp at this;omega
 simp [kO,this]
theorem akx(n k:Nat):(qO n k).length=k:=by simp [qO]
theorem aje(s:ByteArray)(k:Nat)(hk:k<=15)(D:mY (s.data.toList.take k)=true):n5 (s.data.toList.take k)<1152921504606846976:=by
 have h1:=aol _ D;have h2:(s.data.toList.take k).length<=15:=aw8 (List.length_take_le _ _) hk;have F:16^(s.data.toList.take k).length<=16^15:=Nat.pow_le_pow_right (by decide) h2
 have J:(16:Nat)^15=1152921504606846976:=by decide
 omega
theorem aaJ(s:ByteArray)(k:Nat)(hk:k<s.size)(D:mY (s.data.toList.take k)=true)(h:dv (bt s k).toNat<16):
  mY (s.data.toList.take (k+1))=true/\n5 (s.data.toList.take (k+1))=n5 (s.data.toList.take k)*16+dv (bt s k).toNat:=by
 rw[acM s k hk,av0]at h⊢;rw[ank s k hk,Yd,Yc,D];simp [h]
theorem apY(s:ByteArray)(k:Nat)(hk:k<s.size)(h:¬dv (bt s k).toNat<16):sn s=0/\kO s=false:=by rw[acM s k hk,av0]at h;have:=alr s k hk h;simp [sn,this]
theorem apZ(s:ByteArray)(D:s.size=16)(F:mY (s.data.toList.take 16)=true):sn s=n5 (s.data.toList.take 16)/\kO s=true:=by
 have J:s.data.toList.length=16:=D;rw[aB8 (by omega)]at F⊢
 have:kO s=true:=by simp [kO,D,F]
 simp [sn,this]
theorem asq(c:Int)(h1:48<=c)(h2:c<=57):dv c.toNat=(c-48).toNat:=by unfold dv;rw[if_pos (by omega)];omega
theorem asp(c:Int)(h1:97<=c)(h2:c<=102):dv c.toNat=(c-87).toNat:=by unfold dv;rw[if_neg (by omega),if_pos (by omega)];omega
theorem arE(c:Int)(h1:c<48\/57<c)(h2:c<97\/102<c):dv c.toNat=16:=by unfold dv;rw[if_neg (by omega),if_neg (by omega)]
theorem amH(d:Nat)(h:d<10):48+UInt8.ofNat d=wV d:=by unfold wV;rw[if_pos h,UInt8.ofNat_add];rfl
theorem als(d:Nat)(h:¬d<10):87+UInt8.ofNat d=wV d:=by unfold wV;rw[if_neg h,UInt8.ofNat_add];rfl
end Go.Proofs.YtejhifnjgoclpaaGreatDoor
namespace Go.Proofs.YtejhifnjgoclpaaGreatDoor
open Go.RowKit
open Go.PlainAid (bt get_bt bt_nonneg bt_le)
theorem as6(D:World)(n:Int):(convert 472 9 (.slice (some ⟨D.heap.size,0,none⟩) 1 1)).run at1 (D.alloc (.cells #[.int .u8 n] 5))=.ok (.string ⟨#[UInt8.ofNat n.toNat]⟩) (D.alloc (.cells #[.int .u8 n] 5)):=by
 refine run_convert_bytes_arg _ 472 5 Tryz.underlying472 Tryz.underlying5 _ 0 1 1 [n] rfl (λi F=>?_) 9 Tryz.underlying9;obtain rfl:i=0:=by omega
 simp [go_sem]
theorem aok(n k:Nat)(F:n<18446744073709551616)(hk:k<16):∃d:Nat,bits .and .u64 ((n:Int)/2^(60-4*k)) 15=(d:Int)/\d<16/\Hid (qO n (k+1)=qO n k++[wV d]):=by
 have e:(2:Nat)^(60-4*k)=16^(15-k):=by rw[show(16:Nat)=2^4 from rfl,<-Nat.pow_mul];congr 1;omega
 refine⟨n/16^(15-k)%16,?_,Nat.mod_lt _ (by decide),amG n k⟩
 have D:((n:Int)/2^(60-4*k))=((n/16^(15-k):Nat):Int):=by rw[<-e];simp
 have hle:n/16^(15-k)<=n:=Nat.div_le_self _ _;rw[D];generalize n/16^(15-k)=m at*;rw[u64_and _ _ (by omega) (by omega) (by omega) (by omega),av0]
 exact congrArg _ (Nat.and_two_pow_sub_one_eq_mod m 4)
theorem Z9(l:List UInt8)(c d:UInt8)(r:List UInt8)(h:r=l++[d])(hc:c=d):Value.string (⟨l.toArray⟩++⟨#[c]⟩)=Value.string ⟨r.toArray⟩:=by subst hc h;congr 1
theorem arp(n:Nat)(w:World)(hn:n<18446744073709551616):
  Calls at1 402 #[.int .u64 n] w λe w'=>e=.returned (.string ⟨(Uj n).toArray⟩)/\Below w.heap.size w w':=by
 have kc:=as6
 go_enter Tryz.func402,Tryz.ntmps402
 go_wp2
 go_loopw [3,4] (λs i wr=>∃k:Nat,k<=16/\i=.int .i64 (60-4*k)/\s=.string ⟨(qO n k).toArray⟩/\Below w.heap.size w wr) (λ_ i _=>(64+intOf i).toNat)
 case atStart=>exact⟨0,au2 _,rfl,rfl,Below.refl _ _⟩
 case round=>
  obtain⟨k,hk,rfl,rfl,hb⟩:=hrel;have hl:(qO n k).length<=16:=by rw[akx];exact hk
  by_cases hlt:k<16
  ·obtain⟨d,hd,hd16,HD⟩:=aok n k hn hlt
   go_wp2
   ·go_roundw
    case rel=>exact⟨k+1,by omega,by go_num,Z9 _ _ _ _ HD (amH d (by omega)),hb.alloc hb.size _⟩
    case measure=>simp [intOf];omega
   ·go_roundw
    case rel=>exact⟨k+1,by omega,by go_num,Z9 _ _ _ _ HD (als d (by omega)),hb.alloc hb.size _⟩
    case measure=>simp [intOf];omega
  ·go_wp2
   go_ret
   obtain rfl:k=16:=by omega
   exact⟨rfl,hb⟩
end Go.Proofs.YtejhifnjgoclpaaGreatDoor
namespace Go.Proofs.YtejhifnjgoclpaaGreatDoor
open Ieee
def cB(x:Nat):Nat:=x %9223372036854775808
def fL(x:Nat):Bool:=x/9223372036854775808 %2==1
def nan(x:Nat):Bool:=decide (9218868437227405312<cB x)
def key(x:Nat):Int:=if fL x then-(cB x:Int)else(cB x:Int)
def iq(r:Nat):Nat:=if r<4503599627370496 then r else(4503599627370496+r %4503599627370496)*2^(r/4503599627370496-1)
theorem Yp(r:Nat):iq r<iq (r+1):=by
 unfold iq;by_cases h1:r+1<4503599627370496
 ·rw[if_pos (by omega),if_pos h1];omega
 ·by_cases h2:r<4503599627370496
  ·have e:r=4503599627370495:=by omega
   subst e;decide
  ·rw[if_neg h2,if_neg h1];by_cases J:r %4503599627370496=4503599627370495
   ·have D:(r+1)%4503599627370496=0:=by omega
    have F:(r+1)/4503599627370496-1=(r/4503599627370496-1)+1:=by omega
    rw[J,D,F,aC0];have:0<2^(r/4503599627370496-1):=Nat.pow_pos (by decide)
    generalize 2^(r/4503599627370496-1)=p at*;omega
   ·have D:(r+1)%4503599627370496=r %4503599627370496+1:=by omega
    have F:(r+1)/4503599627370496=r/4503599627370496:=by omega
    rw[D,F];exact(Nat.mul_lt_mul_right (Nat.pow_pos (by decide))).2 (by omega)
theorem alJ{r s:Nat}(h:r<s):iq r<iq s:=by
 induction s with
 |zero=>omega
 |succ s D=>
  by_cases e:r=s
  ·subst e;exact Yp r
  ·exact Nat.lt_trans (D (by omega)) (Yp s)
theorem KF:iq 0=0:=by decide
def TD(x:Nat):Int:=if fL x then-(iq (cB x):Int)else(iq (cB x):Int)
theorem ajj(x y:Nat):compare (TD x) (TD y)=compare (key x) (key y):=by
 have h1:∀a b,a<b->iq a<iq b:=λa b h=>alJ h
 have m:iq (cB x)<iq (cB y)<->cB x<cB y:=by
  constructor
  ·intro h;apply Classical.byContradiction;intro D;by_cases e:cB x=cB y
   ·rw[e]at h;omega
   ·have:=h1 (cB y) (cB x) (by omega);omega
  ·exact h1 _ _
 have m2:iq (cB y)<iq (cB x)<->cB y<cB x:=by
  constructor
  ·intro h;apply Classical.byContradiction;intro D;by_cases e:cB x=cB y
   ·rw[e]at h;omega
   ·have:=h1 (cB x) (cB y) (by omega);omega
  ·exact h1 _ _
 have F:iq (cB x)=0<->cB x=0:=by
  constructor
  ·intro h;by_cases e:0<cB x
   ·have:=h1 0 _ e;rw[KF]at this;omega
   ·omega
  ·intro h;rw[h];exact KF
 have z2:iq (cB y)=0<->cB y=0:=by
  constructor
  ·intro h;by_cases e:0<cB y
   ·have:=h1 0 _ e;rw[KF]at this;omega
   ·omega
  ·intro h;rw[h];exact KF
 unfold TD key;generalize iq (cB x)=a at*;generalize iq (cB y)=b at*;simp only[compare,compareOfLessAndEq];cases fL x<;>cases fL y<;>simp only[av7,if_true,if_false]<;>(repeat' split)<;>first|rfl|omega
theorem ajU(a b:Int)(c:Nat)(h:0<c):compare (a*c) (b*c)=compare a b:=by
 have D:a*c<b*c<->a<b:=Int.mul_lt_mul_right (by omega)
 have F:a*c=b*c<->a=b:=Int.mul_eq_mul_right_iff (by omega)
 simp only[compare,compareOfLessAndEq,D,F]
theorem XC(s:Bool)(m e c:Nat):signed s m e*((2^c:Nat):Int)=if s then-((m*2^(e+c):Nat):Int)else((m*2^(e+c):Nat):Int):=by
 unfold signed;rw[Nat.shiftLeft_eq,Nat.pow_add,<-Nat.mul_assoc];cases s
 ·simp only[av7,if_false];rw[<-Int.natCast_mul]
 ·simp only[if_true];rw[Int.neg_mul,<-Int.natCast_mul]
theorem RA(x:Nat):double.read x=
 if cB x<4503599627370496 then .number (fL x) (cB x) (-1074)
 else if cB x<9218868437227405312 then .number (fL x) (4503599627370496+cB x %4503599627370496) (-1074+(cB x/4503599627370496-1:Nat))
 else if cB x=9218868437227405312 then .infinity (fL x)else .nan (fL x) (cB x-9218868437227405312):=rfl
theorem Kl(x:Nat)(h:cB x<9218868437227405312):∃m e:Nat,double.read x=.number (fL x) m (-1074+(e:Int))/\m*2^e=iq (cB x):=by
 rw[RA];by_cases h1:cB x<4503599627370496
 ·rw[if_pos h1];exact⟨cB x,0,rfl,by unfold iq;rw[if_pos h1];simp⟩
 ·rw[if_neg h1,if_pos h];exact⟨_,_,rfl,by unfold iq;rw[if_neg h1]⟩
theorem ako(x y:Nat)(N:cB x<9218868437227405312)(O:cB y<9218868437227405312):double.order x y=some (compare (key x) (key y)):=by
 obtain⟨m,e,h1,h2⟩:=Kl x N;obtain⟨n,g,L,M⟩:=Kl y O;unfold Format.order;rw[h1,L,<-ajj];show some (compare _ _)=_;congr 1;have D:min (-1074+(e:Int)) (-1074+(g:Int))= -1074+((min e g:Nat):Int):=by omega
 rw[D];have F:(-1074+(e:Int)-(-1074+((min e g:Nat):Int))).toNat=e-min e g:=by omega
 have J:(-1074+(g:Int)-(-1074+((min e g:Nat):Int))).toNat=g-min e g:=by omega
 rw[F,J,<-ajU _ _ (2^min e g) (Nat.pow_pos (by decide)),XC,XC]
 rw[show e-min e g+min e g=e from by omega,show g-min e g+min e g=g from by omega,h2,M]
 rfl
theorem RD(x y:Nat)(h:nan x=true\/nan y=true):double.order x y=none:=by
 have D:∀z,nan z=true->∃s t,double.read z=.nan s t:=by
  intro z F;have F:=of_decide_eq_true F;rw[RA,if_neg (by omega),if_neg (by omega),if_neg (by omega)]
  exact⟨_,_,rfl⟩
 unfold Format.order;rcases h with h|h
 ·obtain⟨s,t,e⟩:=D x h;rw[e];cases double.read y<;>rfl
 ·obtain⟨s,t,e⟩:=D y h;rw[e];cases double.read x<;>rfl
theorem Sa(x:Nat)(h:cB x=9218868437227405312):double.read x=.infinity (fL x):=by rw[RA,if_neg (by omega),if_neg (by omega),if_pos h]
theorem RE(x y:Nat)(F:nan x=false)(J:nan y=false):double.order x y=some (compare (key x) (key y)):=by
 have F:=of_decide_eq_false F;have J:=of_decide_eq_false J;by_cases L:cB x<9218868437227405312
 ·by_cases D:cB y<9218868437227405312
  ·exact ako x y L D
  ·obtain⟨m,e,h1,_⟩:=Kl x L;have h2:=Sa y (by omega)
   unfold Format.order;rw[h1,h2];show some (if fL y then Ordering.gt else Ordering.lt)=_
   unfold key;simp only[compare,compareOfLessAndEq];cases fL x<;>cases fL y<;>simp only[av7,if_true,if_false]<;>(repeat' split)<;>first|rfl|omega
 ·have h1:=Sa x (by omega)
  by_cases D:cB y<9218868437227405312
  ·obtain⟨m,e,h2,_⟩:=Kl y D;unfold Format.order;rw[h1,h2];show some (if fL x then Ordering.lt else Ordering.gt)=_
   unfold key;simp only[compare,compareOfLessAndEq];cases fL x<;>cases fL y<;>simp only[av7,if_true,if_false]<;>(repeat' split)<;>first|rfl|omega
  ·have h2:=Sa y (by omega)
   unfold Format.order;rw[h1,h2];show some (compare (fL y).toNat (fL x).toNat)=_;unfold key;simp only[compare,compareOfLessAndEq];cases fL x<;>cases fL y<;>simp only[av7,if_true,if_false,Bool.toNat_true,Bool.toNat_false]<;>(repeat' split)<;>first|rfl|omega
end Go.Proofs.YtejhifnjgoclpaaGreatDoor
namespace Go.Proofs.YtejhifnjgoclpaaGreatDoor
theorem TH(b:Nat)(h:b<18446744073709551616):fL b=decide (9223372036854775808<=b):=by unfold fL;rw[aB9];simp only[beq_iff_eq,decide_eq_true_eq];omega
theorem abw(b:Nat)(h:b<18446744073709551616):cB b=if 9223372036854775808<=b then b-9223372036854775808 else b:=by unfold cB;split<;>omega
def fj(b:Nat):Nat:=
 if nan b then 0 else if cB b=9218868437227405312 then(if fL b then 1 else 6)else if cB b=0 then(if fL b then 3 else 4)else if fL b then 2 else 5
def dW(b:Nat):Nat:=if nan b then 0 else if fL b then 18446744073709551615-b else b+9223372036854775808
def j6(a b:Nat):Int:=if dW a<dW b then-1 else if dW b<dW a then 1 else 0
theorem Rm(b:Nat)(h:b<18446744073709551616):
  (fj b=0/\nan b=true/\(9218868437227405312<b/\b<9223372036854775808\/18442240474082181120<b))\/
  (fj b=1/\nan b=false/\b=18442240474082181120)\/
  (fj b=2/\nan b=false/\9223372036854775808<b/\b<18442240474082181120)\/
  (fj b=3/\nan b=false/\b=9223372036854775808)\/
  (fj b=4/\nan b=false/\b=0)\/
  (fj b=5/\nan b=false/\0<b/\b<9218868437227405312)\/
  (fj b=6/\nan b=false/\b=9218868437227405312):=by
 have hs:=TH b h;have J:=abw b h;unfold fj nan;rw[hs];by_cases h1:9223372036854775808<=b
 ·rw[if_pos h1]at J;rw[J,decide_eq_true h1];by_cases h2:9218868437227405312<b-9223372036854775808
  ·left;simp only[decide_eq_true h2];exact⟨if_pos trivial,trivial,.inr (by omega)⟩
  ·simp only[decide_eq_false h2];by_cases F:b-9223372036854775808=9218868437227405312
   ·right;left;simp [F];omega
   ·by_cases D:b-9223372036854775808=0
    ·right;right;right;left;simp [D];omega
    ·right;right;left;simp [F,D];omega
 ·rw[if_neg h1]at J;rw[J,decide_eq_false h1];by_cases h2:9218868437227405312<b
  ·left;simp only[decide_eq_true h2];exact⟨if_pos trivial,trivial,.inl (by omega)⟩
  ·simp only[decide_eq_false h2];by_cases F:b=9218868437227405312
   ·right;right;right;right;right;right;simp [F]
   ·by_cases D:b=0
    ·right;right;right;right;left;simp [D]
    ·right;right;right;right;right;left;simp [D];omega
theorem abz(b:Nat)(h:b<18446744073709551616):dW b=if nan b then 0 else if 9223372036854775808<=b then 18446744073709551615-b else b+9223372036854775808:=by unfold dW;rw[TH b h];simp only[decide_eq_true_eq]
theorem acC(b:Nat)(h:b<18446744073709551616):key b=if 9223372036854775808<=b then-((b:Int)-9223372036854775808)else(b:Int):=by
 unfold key;rw[TH b h,abw b h];by_cases h1:9223372036854775808<=b
 ·simp only[h1,decide_true,if_true];omega
 ·simp only[h1,decide_false,if_false,av7]
end Go.Proofs.YtejhifnjgoclpaaGreatDoor
namespace Go.Proofs.YtejhifnjgoclpaaGreatDoor
open Go.RowKit
open Go.PlainAid (bt get_bt bt_nonneg bt_le)
theorem aky(n:Int)(w:World):(callFunc 350 #[.int .u64 n]).run at1 w=.ok (.value (.float .f64 n.toNat)) w:=by kernel_rfl
theorem alV(b:Nat)(w:World):(callFunc 420 #[.float .f64 b]).run at1 w=.ok (.value (.int .u64 b)) w:=by kernel_rfl
theorem TJ{k:FloatKind}{a b:Nat}{x y:Bool}(h:a=b)(h2:x=y):Ending.returned (.tuple #[.float k a,.bool x])=.returned (.tuple #[.float k b,.bool y]):=by rw[h,h2]
theorem al4(s:ByteArray)(w:World):
  Calls at1 253 #[.string s] w λe w'=>e=.returned (.tuple #[.float .f64 (sn s),.bool (kO s)])/\w=w':=by
 have hfb:=aky;by_cases h16:s.size=16
 ·have hb:=get_bt s
  go_enter Tryz.func253,Tryz.ntmps253
  go_wp2
  go_loop [4,12] (λd i=>∃k:Nat,k<=16/\i=.int .i64 k/\mY (s.data.toList.take k)=true/\d=.int .u64 (n5 (s.data.toList.take k):Nat)) (λ_ i=>16-(intOf i).toNat)
  case atStart=>exact⟨0,au2 _,rfl,rfl,rfl⟩
  case round=>
   obtain⟨k,hk,rfl,ha,rfl⟩:=hrel;by_cases hlt:k<16
   ·have h0:=bt_nonneg s k;have h1:=bt_le s k;have hv:=aje s k (by omega) ha
    go_wp2
    ·go_round
     have hd:=asq _ ‹48<=bt s k› ‹_›;have:=aaJ s k (by omega) ha (by omega)
     case rel=>exact⟨k+1,by omega,by go_num,this.1,by rw[this.2,hd];exact congrArg _ (by go_arith)⟩
     case measure=>simp [intOf];omega
    ·go_round
     have hd:=asp _ ‹97<=bt s k› ‹_›;have:=aaJ s k (by omega) ha (by omega)
     case rel=>exact⟨k+1,by omega,by go_num,this.1,by rw[this.2,hd];exact congrArg _ (by go_arith)⟩
     case measure=>simp [intOf];omega
    all_goals
     go_ret2
     have hd:=arE (bt s k) (by omega) (by omega)
     have:=apY s k (by omega) (by omega)
     exact⟨TJ (by rw[this.1]) (by rw[this.2]),rfl⟩
   ·go_wp2
    go_ret2
    obtain rfl:k=16:=by omega
    have:=apZ s h16 ha;exact⟨TJ this.1.symm (by rw[this.2]),rfl⟩
 ·go_enter Tryz.func253,Tryz.ntmps253
  go_wp2
  go_ret2
  exact⟨TJ (by simp [sn,kO,h16]) (by simp [kO,h16]),rfl⟩
theorem akO(b:Nat)(w:World)(h:b<18446744073709551616):
  Calls at1 378 #[.float .f64 b] w λe w'=>e=.returned (.bool (decide (9223372036854775808<=b)))/\w=w':=by
 have htb:=alV
 go_enter Tryz.func378,Tryz.ntmps378
 go_wp2
 go_ret
 refine⟨ape ?_,rfl⟩;rw[aB9];simp only[decide_eq_true_eq]
 go_arith
theorem wG(b:Nat)(v:Bool)(h:nan b=v):(FloatKind.f64.format.order b b !=some Ordering.eq)=v:=by
 show(Ieee.double.order b b !=some Ordering.eq)=v;cases v
 ·rw[RE b b h h];simp [compare,compareOfLessAndEq]
 ·rw[RD b b (.inl h)];rfl
end Go.Proofs.YtejhifnjgoclpaaGreatDoor
namespace Go.Proofs.YtejhifnjgoclpaaGreatDoor
open Go.RowKit
theorem oa(x y:Nat)(D:nan x=false)(F:nan y=false)(v:Bool)(h:decide (key x<key y)=v):(FloatKind.f64.format.order x y==some Ordering.lt)=v:=by
 show(Ieee.double.order x y==some Ordering.lt)=v;rw[RE x y D F,<-h];simp only[compare,compareOfLessAndEq];by_cases h1:key x<key y
 ·simp [h1]
 ·by_cases h2:key x=key y
  ·simp [h2]
  ·simp [h1,h2]
theorem ug(x y:Nat)(D:nan x=false)(F:nan y=false)(v:Bool)(h:decide (key y<key x)=v):(FloatKind.f64.format.order x y==some Ordering.gt)=v:=by
 show(Ieee.double.order x y==some Ordering.gt)=v;rw[RE x y D F,<-h];simp only[compare,compareOfLessAndEq];by_cases h1:key x<key y
 ·have:¬key y<key x:=by omega
  simp [h1,this]
 ·by_cases h2:key x=key y
  ·simp [h2]
  ·have:key y<key x:=by omega
   simp [h1,h2,this]
theorem k1:nan 18442240474082181119=false/\key 18442240474082181119= -9218868437227405311:=by decide+kernel
theorem k2:nan 0=false/\key 0=0:=by decide+kernel
theorem k3:nan 9218868437227405311=false/\key 9218868437227405311=9218868437227405311:=by decide+kernel
theorem Yv(b:Nat)(v:Bool)(w:World)(h:b<18446744073709551616)(D:Hid (decide (9223372036854775808<=b)=v)):
  Calls at1 378 #[.float .f64 b] w λe w'=>e=.returned (.bool v)/\w=w':=by
 have:=akO b w h
 rwa [D.out]at this
set_option maxHeartbeats 800000 in
theorem apP (b:Nat) (w:World) (h:b<18446744073709551616):
  Calls at1 297 #[.float .f64 b] w λe w'=>e=.returned (.int .i64 (fj b:Nat))/\w=w':=by
 have hk:=acC b h;rcases Rm b h with⟨hkd,hn,hb⟩|⟨hkd,hn,hb⟩|⟨hkd,hn,hb⟩|⟨hkd,hn,hb⟩|⟨hkd,hn,hb⟩|⟨hkd,hn,hb⟩|⟨hkd,hn,hb⟩
 ·have ho:=wG b _ hn;have HK:=au3 hkd;clear hkd hn hb hk
  go_enter Tryz.func297,Tryz.ntmps297
  go_wp2
  go_ret
  exact⟨mX (by rw[HK.out];rfl),rfl⟩
 ·have ho:=wG b _ hn;have HK:=au3 hkd;rw[if_pos (by omega)]at hk
  have c0:=oa b _ hn k1.1 true (by rw[k1.2];exact decide_eq_true (by rw[hk];omega))
  clear hkd hn hb hk
  go_enter Tryz.func297,Tryz.ntmps297
  go_wp2
  go_ret
  exact⟨mX (by rw[HK.out];rfl),rfl⟩
 ·have ho:=wG b _ hn;have HK:=au3 hkd;rw[if_pos (by omega)]at hk
  have c0:=oa b _ hn k1.1 false (by rw[k1.2];exact decide_eq_false (by rw[hk];omega))
  have c1:=oa b _ hn k2.1 true (by rw[k2.2];exact decide_eq_true (by rw[hk];omega))
  clear hkd hn hb hk
  go_enter Tryz.func297,Tryz.ntmps297
  go_wp2
  go_ret
  exact⟨mX (by rw[HK.out];rfl),rfl⟩
 ·have ho:=wG b _ hn;have HK:=au3 hkd;rw[if_pos (by omega)]at hk
  have c0:=oa b _ hn k1.1 false (by rw[k1.2];exact decide_eq_false (by rw[hk];omega))
  have c1:=oa b _ hn k2.1 false (by rw[k2.2];exact decide_eq_false (by rw[hk];omega))
  have c2:=ug b _ hn k3.1 false (by rw[k3.2];exact decide_eq_false (by rw[hk];omega))
  have c3:=ug b _ hn k2.1 false (by rw[k2.2];exact decide_eq_false (by rw[hk];omega))
  have HG:Hid (decide (9223372036854775808<=b)=true):=au3 (decide_eq_true (by omega))
  clear hkd hn hb hk
  go_enter Tryz.func297,Tryz.ntmps297
  go_wp2_with (go_at_call 378;refine(Yv b _ _ h HG).mono ?_;rintro e w' ⟨rfl,rfl⟩)
  go_ret
  exact⟨mX (by rw[HK.out];rfl),rfl⟩
 ·have ho:=wG b _ hn;have HK:=au3 hkd;rw[if_neg (by omega)]at hk
  have c0:=oa b _ hn k1.1 false (by rw[k1.2];exact decide_eq_false (by rw[hk];omega))
  have c1:=oa b _ hn k2.1 false (by rw[k2.2];exact decide_eq_false (by rw[hk];omega))
  have c2:=ug b _ hn k3.1 false (by rw[k3.2];exact decide_eq_false (by rw[hk];omega))
  have c3:=ug b _ hn k2.1 false (by rw[k2.2];exact decide_eq_false (by rw[hk];omega))
  have HG:Hid (decide (9223372036854775808<=b)=false):=au3 (decide_eq_false (by omega))
  clear hkd hn hb hk
  go_enter Tryz.func297,Tryz.ntmps297
  go_wp2_with (go_at_call 378;refine(Yv b _ _ h HG).mono ?_;rintro e w' ⟨rfl,rfl⟩)
  go_ret
  exact⟨mX (by rw[HK.out];rfl),rfl⟩
 ·have ho:=wG b _ hn;have HK:=au3 hkd;rw[if_neg (by omega)]at hk
  have c0:=oa b _ hn k1.1 false (by rw[k1.2];exact decide_eq_false (by rw[hk];omega))
  have c1:=oa b _ hn k2.1 false (by rw[k2.2];exact decide_eq_false (by rw[hk];omega))
  have c2:=ug b _ hn k3.1 false (by rw[k3.2];exact decide_eq_false (by rw[hk];omega))
  have c3:=ug b _ hn k2.1 true (by rw[k2.2];exact decide_eq_true (by rw[hk];omega))
  clear hkd hn hb hk
  go_enter Tryz.func297,Tryz.ntmps297
  go_wp2
  go_ret
  exact⟨mX (by rw[HK.out];rfl),rfl⟩
 ·have ho:=wG b _ hn;have HK:=au3 hkd;rw[if_neg (by omega)]at hk
  have c0:=oa b _ hn k1.1 false (by rw[k1.2];exact decide_eq_false (by rw[hk];omega))
  have c1:=oa b _ hn k2.1 false (by rw[k2.2];exact decide_eq_false (by rw[hk];omega))
  have c2:=ug b _ hn k3.1 true (by rw[k3.2];exact decide_eq_true (by rw[hk];omega))
  clear hkd hn hb hk
  go_enter Tryz.func297,Tryz.ntmps297
  go_wp2
  go_ret
  exact⟨mX (by rw[HK.out];rfl),rfl⟩
end Go.Proofs.YtejhifnjgoclpaaGreatDoor
namespace Go.Proofs.YtejhifnjgoclpaaGreatDoor
open Go.RowKit
theorem Am(b k:Nat)(w:World)(h:b<18446744073709551616)(hk:Hid (fj b=k)):
  Calls at1 297 #[.float .f64 b] w λe w'=>e=.returned (.int .i64 k)/\w=w':=by
 have:=apP b w h
 rwa [hk.out]at this
theorem abK(b:Nat)(h:b<18446744073709551616):fj b<=6:=by rcases Rm b h with⟨F,J,D⟩|⟨F,J,D⟩|⟨F,J,D⟩|⟨F,J,D⟩|⟨F,J,D⟩|⟨F,J,D⟩|⟨F,J,D⟩<;>omega
theorem Zw(b:Nat)(h:b<18446744073709551616):
  (fj b=0/\nan b=true/\dW b=0)\/
  (nan b=false/\0<fj b/\
   ((fj b=1/\dW b=4503599627370495/\key b= -9218868437227405312)\/
    (fj b=2/\dW b+b=18446744073709551615/\key b=9223372036854775808-b/\9223372036854775808<b/\b<18442240474082181120)\/
    (fj b=3/\dW b=9223372036854775807/\key b=0)\/
    (fj b=4/\dW b=9223372036854775808/\key b=0)\/
    (fj b=5/\dW b=b+9223372036854775808/\key b=b/\0<b/\b<9218868437227405312)\/
    (fj b=6/\dW b=18442240474082181120/\key b=9218868437227405312))):=by
 have r:=abz b h;have k:=acC b h;rcases Rm b h with⟨h1,D,g1⟩|⟨h1,D,g1⟩|⟨h1,D,g1⟩|⟨h1,D,g1⟩|⟨h1,D,g1⟩|⟨h1,D,g1⟩|⟨h1,D,g1⟩
 ·left;rw[D]at r;exact⟨h1,D,r⟩
 ·rw[D,if_neg (by decide),if_pos (by omega)]at r
  rw[if_pos (by omega)]at k
  exact .inr ⟨D,by omega,.inl ⟨h1,by omega,by omega⟩⟩
 ·rw[D,if_neg (by decide),if_pos (by omega)]at r
  rw[if_pos (by omega)]at k
  exact .inr ⟨D,by omega,.inr (.inl ⟨h1,by omega,by omega,g1.1,g1.2⟩)⟩
 ·rw[D,if_neg (by decide),if_pos (by omega)]at r
  rw[if_pos (by omega)]at k
  exact .inr ⟨D,by omega,.inr (.inr (.inl ⟨h1,by omega,by omega⟩))⟩
 ·rw[D,if_neg (by decide),if_neg (by omega)]at r
  rw[if_neg (by omega)]at k
  exact .inr ⟨D,by omega,.inr (.inr (.inr (.inl ⟨h1,by omega,by omega⟩)))⟩
 ·rw[D,if_neg (by decide),if_neg (by omega)]at r
  rw[if_neg (by omega)]at k
  exact .inr ⟨D,by omega,.inr (.inr (.inr (.inr (.inl ⟨h1,by omega,by omega,g1.1,g1.2⟩))))⟩
 ·rw[D,if_neg (by decide),if_neg (by omega)]at r
  rw[if_neg (by omega)]at k
  exact .inr ⟨D,by omega,.inr (.inr (.inr (.inr (.inr (⟨h1,by omega,by omega⟩)))))⟩
theorem alF(a b:Nat)(J:a<18446744073709551616)(L:b<18446744073709551616):
  (fj a<fj b->dW a<dW b)/\(fj b<fj a->dW b<dW a)/\
  (fj a=fj b->(nan a=true/\nan b=true/\dW a=dW b)\/
   (nan a=false/\nan b=false/\(key a<key b<->dW a<dW b)/\(key b<key a<->dW b<dW a))):=by
 rcases Zw a J with⟨h1,D,M⟩|⟨D,h1,g1⟩<;>rcases Zw b L with⟨h2,F,N⟩|⟨F,h2,g2⟩
 ·exact⟨λh=>by omega,λh=>by omega,λh=>.inl ⟨D,F,by omega⟩⟩
 ·exact⟨λh=>by omega,λh=>by omega,λh=>by omega⟩
 ·exact⟨λh=>by omega,λh=>by omega,λh=>by omega⟩
 ·exact⟨λh=>by omega,λh=>by omega,λh=>.inr ⟨D,F,by omega,by omega⟩⟩
theorem ab4{a b:Nat}(h:dW a<dW b):j6 a b= -1:=by unfold j6;rw[if_pos h]
theorem ab5{a b:Nat}(h:dW b<dW a):j6 a b=1:=by unfold j6;rw[if_neg (by omega),if_pos h]
theorem ab6{a b:Nat}(h:dW a=dW b):j6 a b=0:=by unfold j6;rw[if_neg (by omega),if_neg (by omega)]
set_option maxHeartbeats 800000 in
theorem Eb (a b:Nat) (w:World) (ha:a<18446744073709551616) (hb:b<18446744073709551616):
  Calls at1 191 #[.float .f64 a,.float .f64 b] w λe w'=>e=.returned (.int .i64 (j6 a b))/\w=w':=by
 obtain⟨m1,m2,m3⟩:=alF a b ha hb;have ka:=abK a ha;have kb:=abK b hb;generalize hk:fj a=k at*;generalize hn:fj b=n at*;have HK:=au3 hk;have HN:=au3 hn;clear hk hn;by_cases h1:k<n
 ·have HC:=au3 (ab4 (m1 h1));clear m1 m2 m3
  go_enter Tryz.func191,Tryz.ntmps191
  go_wp2_with fail
  refine(Am a k _ ha HK).mono ?_;rintro e w' ⟨rfl,rfl⟩
  go_wp2_with fail
  refine(Am b n _ hb HN).mono ?_;rintro e w' ⟨rfl,rfl⟩
  go_wp2_with fail
  go_ret
  exact⟨mX (by rw[HC.out]),rfl⟩
 ·by_cases h2:n<k
  ·have HC:=au3 (ab5 (m2 h2));clear m1 m2 m3
   go_enter Tryz.func191,Tryz.ntmps191
   go_wp2_with fail
   refine(Am a k _ ha HK).mono ?_;rintro e w' ⟨rfl,rfl⟩
   go_wp2_with fail
   refine(Am b n _ hb HN).mono ?_;rintro e w' ⟨rfl,rfl⟩
   go_wp2_with fail
   go_ret
   exact⟨mX (by rw[HC.out]),rfl⟩
  ·obtain rfl:k=n:=by omega
   have m3:=m3 rfl;clear m1 m2
   obtain⟨x,y,z,hx,hy,HC⟩:∃(x y:Bool) (z:Int),(FloatKind.f64.format.order a b==some Ordering.lt)=x/\(FloatKind.f64.format.order a b==some Ordering.gt)=y/\Hid (j6 a b=if x then-1 else if y then 1 else 0):=by
    rcases m3 with⟨n1,n2,r⟩|⟨n1,n2,r1,r2⟩
    ·refine⟨false,false,0,?_,?_,ab6 r⟩
     ·show(Ieee.double.order a b==_)=_;rw[RD a b (.inl n1)];rfl
     ·show(Ieee.double.order a b==_)=_;rw[RD a b (.inl n1)];rfl
    ·refine⟨_,_,0,oa a b n1 n2 _ rfl,ug a b n1 n2 _ rfl,?_⟩;by_cases c1:key a<key b
     ·rw[decide_eq_true c1];exact ab4 (r1.1 c1)
     ·rw[decide_eq_false c1];by_cases c2:key b<key a
      ·rw[decide_eq_true c2];exact ab5 (r2.1 c2)
      ·rw[decide_eq_false c2];exact ab6 (by omega)
   clear m3;cases x<;>cases y
   all_goals
    go_enter Tryz.func191,Tryz.ntmps191
    go_wp2_with fail
    refine(Am a k _ ha HK).mono ?_;rintro e w' ⟨rfl,rfl⟩
    go_wp2_with fail
    refine(Am b k _ hb HN).mono ?_;rintro e w' ⟨rfl,rfl⟩
    go_wp2_with fail
    go_ret
    exact⟨mX (by rw[HC.out];rfl),rfl⟩
end Go.Proofs.YtejhifnjgoclpaaGreatDoor
namespace Go.Proofs.YtejhifnjgoclpaaGreatDoor
open Go.RowKit
theorem amT:∀(k u:Nat),u<10^(k+1)->(Lib.decDigits u).length<=k+1:=by
 intro k
 induction k with
 |zero=>intro u h;rw[Lib.decDigits,dif_pos (by omega)];simp
 |succ k D=>
  intro u h;rw[Lib.decDigits];split
  ·simp
  ·have:=D (u/10) (by rw[aC0]at h;omega)
   simp;omega
theorem Yi{u:Nat}(h:u<10):Lib.decDigits u=[UInt8.ofNat (48+u %10)]:=by rw[Lib.decDigits,dif_pos h,Nat.mod_eq_of_lt h]
theorem Yh{u:Nat}(h:¬u<10):Lib.decDigits u=Lib.decDigits (u/10)++[UInt8.ofNat (48+u %10)]:=by conv=>lhs;rw[Lib.decDigits,dif_neg h]
theorem aqe(D:World)(n:Int):(convert 472 9 (.slice (some ⟨D.heap.size,0,none⟩) 1 1)).run at1 (D.alloc (.cells #[.int .u8 n] 5))=.ok (.string ⟨#[UInt8.ofNat n.toNat]⟩) (D.alloc (.cells #[.int .u8 n] 5)):=by
 refine run_convert_bytes_arg _ 472 5 Tryz.underlying472 Tryz.underlying5 _ 0 1 1 [n] rfl (λi F=>?_) 9 Tryz.underlying9;obtain rfl:i=0:=by omega
 simp [go_sem]
theorem aa3(m:Nat):48+UInt8.ofNat m=UInt8.ofNat (48+m):=by rw[UInt8.ofNat_add];rfl
theorem Yj(c:UInt8)(l:List UInt8):(⟨#[c]⟩:ByteArray)++⟨l.toArray⟩=⟨(c::l).toArray⟩:=by apply ByteArray.ext;simp
theorem amR(N:Nat)(hN:N<9223372036854775808)(res:List UInt8)(hr:Hid (Lib.decDigits N=res))(w:World):
  Calls at1 244 #[.int .i64 N] w λe w'=>e=.returned (.string ⟨res.toArray⟩)/\Below w.heap.size w w':=by
 have hlen:res.length<=20:=by rw[<-hr.out];exact amT 19 N (by omega)
 have kc:=aqe
 go_enter Tryz.func244,Tryz.ntmps244
 go_wp2
 go_loopw [0,3] (λn s wr=>∃(k:Nat) (rest:List UInt8),n=.int .i64 k/\k<9223372036854775808/\s=.string ⟨rest.toArray⟩/\Lib.decDigits k++rest=res/\Below w.heap.size w wr) (λn _ _=>(intOf n).toNat)
 case atStart=>exact⟨N,[],rfl,hN,rfl,by rw[hr.out];simp,Below.refl _ _⟩
 case round=>
  obtain⟨k,rest,rfl,hk,rfl,hd,hb⟩:=hrel;have hrl:rest.length<=20:=by have:=congrArg List.length hd;rw[au5]at this;omega
  have HD:=au3 hd;clear hd;by_cases hlt:k<10
  ·go_wp2
   go_ret
   refine⟨?_,hb.alloc hb.size _⟩;rw[aa3,Yj,<-HD.out,Yi hlt];rfl
  ·go_wp2
   refine⟨⟨k/10,UInt8.ofNat (48+k %10)::rest,by simp,by omega,by rw[aa3,Yj],?_,hb.alloc hb.size _⟩,?_⟩
   ·rw[<-HD.out,Yh hlt,List.append_assoc];rfl
   ·simp [intOf];omega
end Go.Proofs.YtejhifnjgoclpaaGreatDoor
namespace Go.Proofs.YtejhifnjgoclpaaGreatDoor.Fx
open Go.RowKit
set_option maxRecDepth 1000000
noncomputable section
def aw(c:UInt8):List UInt8->List (List UInt8)
 |[]=>[[]]
 |b::t=>if b=c then[]::aw c t else match aw c t with
  |h::r=>(b::h)::r
  |[]=>[[b]]
def strings_Split(s sep:List UInt8):Option (List (List UInt8)):=match sep with
 |[c]=>if s.length<4294967281 then some (aw c s)else none
 |_=>none
def cI(a b:List UInt8):Int:=if Op.bytesLess a b then-1 else if a=b then 0 else 1
def strings_Compare(a b:List UInt8):Option Int:=some (cI a b)
def bJ(c:UInt8):Bool:=decide (48<=c.toNat)&&decide (c.toNat<=57)
def tE(s:List UInt8):Option Bool:=if s.length<=1000000000 then some (s.all bJ)else none
def Fe(l:List (List UInt8)):Option (List (List UInt8)):=if l.length<1000000 then some l else none
def gV(c:Nat):Nat:=if 48<=c/\c<=57 then c-48 else if 97<=c/\c<=102 then c-87 else 16
def dz(l:List UInt8):Nat:=l.foldl (λn c=>n*16+gV c.toNat) 0
def zf(s:List UInt8):Option (Nat×Bool):=if s.length=16/\s.all (λc=>decide (gV c.toNat<16))=true then some (dz s,true)else some (0,false)
def qW(b:Nat):Bool:=decide (b/4503599627370496 %2048=2047)&& !decide (b %4503599627370496=0)
def fc(b:Nat):Nat:=if qW b then 0 else if 9223372036854775808<=b then 18446744073709551615-b else b+9223372036854775808
def Dw(a b:Nat):Option Int:=if a<18446744073709551616/\b<18446744073709551616 then some (if fc a<fc b then-1 else if fc b<fc a then 1 else 0)else none
def uJ(d:Nat):UInt8:=if d<10 then UInt8.ofNat (48+d)else UInt8.ofNat (87+d)
def Ak(n:Int):Option (List UInt8):=if 0<=n/\n<18446744073709551616 then some ((aA2 16).map λi=>uJ (n.toNat/16^(15-i)%16))else none
def b9(n:Nat):List UInt8:=if h:n<10 then[UInt8.ofNat (48+n)]else b9 (n/10)++[UInt8.ofNat (48+n %10)]
def lr(n:Int):Option (List UInt8):=if 0<=n/\n<=9223372036854775807 then some (b9 n.toNat)else none
def strconv_Itoa(n:Int):Option (List UInt8):=if 0<=n/\n<=9223372036854775807 then some (b9 n.toNat)else none
def oz(a b:Int):Bool:=decide (a.natAbs<b.natAbs)||(decide (a.natAbs=b.natAbs)&&decide (a<b))
def xn(x:Int):List Int->List Int
 |[]=>[x]
 |y::t=>if oz x y then x::y::t else if x=y then y::t else y::xn x t
def bz(l:List Int):List Int:=l.foldr xn []
def Ns(l:List Int):Bool:=l.all λx=>(decide (-1000000<=x)&&decide (x<=1000000))
def Ag(l:List Int):Option (List Int):=if Ns l&&decide (l.length<=1000000)then some (bz l)else none
def mP(l:List Int):Option (List Int×List Int):=if Ns l&&decide (l.length<=1000000)then some (bz l,l)else none
abbrev cN:=(Int×Int×Int)×List UInt8
def mK(v:cN)(place:Int):Option cN:=
 if place=0 then(if 0<=v.1.1/\v.1.1<9223372036854775807 then some ((v.1.1+1,0,0),[])else none)
 else if place=1 then(if 0<=v.1.2.1/\v.1.2.1<9223372036854775807 then some ((v.1.1,v.1.2.1+1,0),[])else none)
 else if place=2 then(if 0<=v.1.2.2/\v.1.2.2<9223372036854775807 then some ((v.1.1,v.1.2.1,v.1.2.2+1),[])else none)
 else some ((0,0,0),[])
abbrev cY:=Int×cN
def bW(o:Int):List UInt8:=if o=1 then[33,61]else if o=2 then[60]else if o=3 then[60,61]else if o=4 then[62]else if o=5 then[62,61]else if o=6 then[126]else if o=7 then[94]else if o=8 then[42]else[61]
def gD(s:List UInt8):Bool:= !s.isEmpty&&decide (s.length<=8)&&(s.all λc=>bJ c||(decide (97<=c.toNat)&&decide (c.toNat<=122))||decide (c.toNat=45))&&(!(s.all bJ)||decide (s.length=1)||decide (s.head?≠some 48))
def preB(s:List UInt8):Bool:=decide ((aw 46 s).length<=4)&&(aw 46 s).all gD
def xm(n:Int):Bool:=decide (0<=n)&&decide (n<=999999)
def pC(v:cN):Bool:=xm v.1.1&&xm v.1.2.1&&xm v.1.2.2&&(v.2.isEmpty||preB v.2)
def kR(v:cN):List UInt8:=if pC v then b9 v.1.1.toNat++46::b9 v.1.2.1.toNat++46::b9 v.1.2.2.toNat++(if v.2.isEmpty then[]else 45::v.2)else[]
def fR(c:cY):List UInt8:=bW c.1++(if c.1=8 then[]else kR c.2)
def dj(c:UInt8):List (List UInt8)->List UInt8
 |[]=>[]
 |[x]=>x
 |x::y::t=>x++c::dj c (y::t)
def yL(r:List (List cY)):Option (List UInt8):=if r.length<=100/\(∀a∈r,a.length<=100)/\(∀a∈r,∀c∈a,c.1=8\/(pC c.2=true/\c.2.2.length<=20000))then some (dj 124 (r.map λa=>dj 44 (a.map fR)))else none
abbrev Want:=List UInt8×List UInt8
def uo(a b:Want):Bool:=Op.bytesLess a.1 b.1||(decide (a.1=b.1)&&Op.bytesLess a.2 b.2)
def sr(l:List Want):List Want:=l.mergeSort λx y=> !uo y x
def wh(l:List Want):Option (List Want):=if l.length<1000000 then some (sr l)else none
def di:List Want->List Want
 |[]=>[]
 |[x]=>[x]
 |x::y::t=>if x=y then di (y::t)else x::di (y::t)
theorem aqg(l:List UInt8)(c:UInt8)(w:World)(D:l.length<=9223372036854775807):
  Calls at1 233 #[.string ⟨l.toArray⟩,.string ⟨#[c]⟩] w λe w'=>e=.returned (.tuple #[.string ⟨(nt l c).1.toArray⟩,.string ⟨(nt l c).2.1.toArray⟩,.bool (nt l c).2.2])/\Below w.heap.size w w':=by
 by_cases h:al (gJ c) l 0<l.length
 ·refine(arG l c _ w D (au3 rfl) h).mono ?_;rintro e w' ⟨rfl,m,rfl⟩;exact⟨by simp [nt,h],⟨rfl,rfl,rfl,at9 _,λ_ _=>rfl⟩⟩
 ·refine(asu l c w D (au3 h)).mono ?_;rintro e w' ⟨rfl,rfl⟩;refine⟨?_,Below.refl _ _⟩;simp [nt,h,aB8 (Nat.le_of_not_lt h),az3 (Nat.le_succ_of_le (Nat.le_of_not_lt h))]
noncomputable def JY:cM at1:=mkB 233 ⟨[(0,.c (.v .str)),(1,.c (.v .str))],[]⟩ [(false,⟨[(2,.c (.v .str)),(3,.c (.v .str)),(4,.c (.v .bool))],[]⟩)] (λr=>(r.1,r.2.1,r.2.2,())) (λx=>lp x.1 x.2.1) (by kernel_rfl) (λx o h0=>by
 obtain⟨l,s,u⟩:=x;have h:lp l s=some o:=h0;clear h0;unfold lp at h;split at h
 ·rename_i c;split at h
  ·rename_i D;injection h with h;subst h;exact ue [.string ⟨l.toArray⟩,.string ⟨#[c]⟩] (.tuple #[.string ⟨(nt l c).1.toArray⟩,.string ⟨(nt l c).2.1.toArray⟩,.bool (nt l c).2.2]) rfl rfl λw=>aqg l c w D
  ·cases h
 ·cases h)
noncomputable def ajq:cM at1:=mkB 253 ⟨[(0,.c (.v .str))],[]⟩ [(false,⟨[(2,.c (.v (.gK .f64))),(3,.c (.v .bool))],[]⟩)] (λr=>(r.1,r.2,())) (λx=>zf x.1) (by kernel_rfl) (λx o h0=>by
 obtain⟨l,u⟩:=x;have h:zf l=some o:=h0;clear h0;have F:kO ⟨l.toArray⟩=(decide (l.length=16)&&l.all λc=>decide (gV c.toNat<16)):=by unfold kO mY;rfl
 have J:o=(sn ⟨l.toArray⟩,kO ⟨l.toArray⟩):=by
  unfold zf at h;unfold sn;split at h
  ·rename_i D;injection h with h;have:kO ⟨l.toArray⟩=true:=by rw[F,D.2,decide_eq_true D.1];rfl
   rw[this,if_pos rfl,<-h];rfl
  ·rename_i D;injection h with h
   have:kO ⟨l.toArray⟩=false:=by
    rw[F];by_cases g:l.length=16
    ·rw[decide_eq_true g,az4];exact Bool.eq_false_iff.2 λq=>D ⟨g,q⟩
    ·rw[decide_eq_false g];rfl
   rw[this,if_neg (by decide),<-h]
 subst J;exact(ue [.string ⟨l.toArray⟩] (.tuple #[.float .f64 (sn ⟨l.toArray⟩),.bool (kO ⟨l.toArray⟩)]) rfl rfl λw=>(al4 ⟨l.toArray⟩ w).mono λe w' ⟨h1,h2⟩=>⟨h1,QZ h2⟩))
theorem Zb{b:Nat}(h:b<18446744073709551616):fc b=Go.Proofs.YtejhifnjgoclpaaGreatDoor.dW b:=by
 rw[Go.Proofs.YtejhifnjgoclpaaGreatDoor.abz b h];unfold fc;have:qW b=nan b:=by unfold qW nan cB;rw[aB9];simp only[au0,ay6,decide_eq_true_eq,decide_eq_false_iff_not];omega
 rw[this]
noncomputable def aiB:cM at1:=mkB 191 ⟨[(0,.c (.v (.gK .f64))),(1,.c (.v (.gK .f64)))],[]⟩ [(false,⟨[(4,.c (.v (.int .i64)))],[]⟩)] (λr=>(r,())) (λx=>Dw x.1 x.2.1) (by kernel_rfl) (λx o h0=>by
 obtain⟨a,b,u⟩:=x;have h:Dw a b=some o:=h0;clear h0;unfold Dw at h;split at h
 ·rename_i D;injection h with h;have F:o=Go.Proofs.YtejhifnjgoclpaaGreatDoor.j6 a b:=by unfold Go.Proofs.YtejhifnjgoclpaaGreatDoor.j6;rw[<-h,Zb D.1,Zb D.2]
  subst F;exact(ue [.float .f64 a,.float .f64 b] (.int .i64 (Go.Proofs.YtejhifnjgoclpaaGreatDoor.j6 a b)) rfl rfl λw=>(Eb a b w D.1 D.2).mono λe w' ⟨h1,h2⟩=>⟨h1,QZ h2⟩)
 ·cases h)
noncomputable def anU:cM at1:=mkB 402 ⟨[(0,.c (.v (.int .u64)))],[]⟩ [(false,⟨[(2,.c (.v .str))],[]⟩)] (λr=>(r,())) (λx=>Ak x.1) (by kernel_rfl) (λx o h0=>by
 obtain⟨n,u⟩:=x;have h:Ak n=some o:=h0;clear h0;unfold Ak at h;split at h
 ·rename_i D;injection h with h;obtain⟨m,rfl⟩:∃m:Nat,n=(m:Int):=⟨aB1 n,(aA7 D.1).symm⟩;have F:o=Uj m:=by rw[<-h,av0];rfl
  subst F;exact(ue [.int .u64 (m:Int)] (.string ⟨(Uj m).toArray⟩) rfl rfl λw=>arp m w (by omega))
 ·cases h)
theorem aa4:∀n:Nat,b9 n=Lib.decDigits n:=by
 intro n
 induction n using Nat.strongRecOn with
 |_ n D=>
  by_cases h:n<10
  ·rw[Yi h,b9,dif_pos h,Nat.mod_eq_of_lt h]
  ·rw[Yh h,b9,dif_neg h,D (n/10) (by omega)]
noncomputable def akn:cM at1:=mkB 244 ⟨[(0,.c (.v (.int .i64)))],[]⟩ [(false,⟨[(2,.c (.v .str))],[]⟩)] (λr=>(r,())) (λx=>lr x.1) (by kernel_rfl) (λx o h0=>by
 obtain⟨n,u⟩:=x;have h:lr n=some o:=h0;clear h0;unfold lr at h;split at h
 ·rename_i D;injection h with h;obtain⟨m,rfl⟩:∃m:Nat,n=(m:Int):=⟨aB1 n,(aA7 D.1).symm⟩;have F:o=Lib.decDigits m:=by rw[<-h,av0,aa4]
  subst F;exact(ue [.int .i64 (m:Int)] (.string ⟨(Lib.decDigits m).toArray⟩) rfl rfl λw=>amR m (by omega) _ (au3 rfl) w)
 ·cases h)
theorem amY(a b:ByteArray)(w:World):(callFunc 441 #[.string a,.string b]).run at1 w=.ok (.value (.int .i64 (Lib.compareBytes a.data.toList b.data.toList))) w:=by
 have h:=run_callFunc_extern (P:=at1) (f:=441) Tryz.func441 (by kernel_rfl) (by kernel_rfl) (by kernel_rfl) (e:=Extern.BytealgCompare.compare) (by kernel_rfl) #[.string a,.string b] w
 rw[h,Lib.run_compareString];rfl
theorem ajZ(a b:ByteArray)(w:World):Calls at1 416 #[.string a,.string b] w λe w'=>e=.returned (.int .i64 (Lib.compareBytes a.data.toList b.data.toList))/\w=w':=by
 have hx:=amY a b
 go_enter Tryz.func416,Tryz.ntmps416
 go_wp2
 go_ret
 exact⟨rfl,rfl⟩
theorem alX(a b:ByteArray)(w:World):Calls at1 372 #[.string a,.string b] w λe w'=>e=.returned (.int .i64 (Lib.compareBytes a.data.toList b.data.toList))/\w=w':=by
 go_enter Tryz.func372,Tryz.ntmps372
 go_wp2_with fail
 refine(ajZ a b w).mono ?_;rintro e w' ⟨rfl,rfl⟩
 go_wp2_with fail
 go_ret
 exact⟨rfl,rfl⟩
theorem Db:∀(a b:List UInt8),Lib.compareBytes a b=cI a b
 |[],[]=>rfl
 |[],y::t=>rfl
 |x::s,[]=>rfl
 |x::s,y::t=>by
  show(if x<y then(-1:Int)else if y<x then 1 else Lib.compareBytes s t)=(if Op.bytesLess (x::s) (y::t)then(-1:Int)else if x::s=y::t then 0 else 1)
  rw[Db s t];unfold cI;have J:Op.bytesLess (x::s) (y::t)=(decide (x<y)||(x==y&&Op.bytesLess s t)):=rfl;rw[J];by_cases h1:x<y
  ·rw[if_pos h1,decide_eq_true h1,Bool.true_or,if_pos rfl]
  ·rw[if_neg h1,decide_eq_false h1,Bool.false_or];by_cases h2:y<x
   ·have F:¬x=y:=λe=>by rw[<-e]at h2;exact h1 (by rw[<-e];exact h2)
    have L:(x==y)=false:=beq_eq_false_iff_ne.2 F;rw[if_pos h2,L,aA6,if_neg (by decide),if_neg (λe=>F (List.cons.inj e).1)]
   ·have he:x=y:=by
      apply UInt8.toNat_inj.1;rw[UInt8.lt_iff_toNat_lt]at h1 h2;omega
    subst he;rw[if_neg h2,beq_self_eq_true,az4];by_cases D:s=t
    ·subst D;rw[if_pos rfl,if_pos rfl]
    ·rw[if_neg D,if_neg (λe=>D (List.cons.inj e).2)]
noncomputable def ah2:cM at1:=mkB 372 ⟨[(0,.c (.v .str)),(1,.c (.v .str))],[]⟩ [(false,⟨[(4,.c (.v (.int .i64)))],[]⟩)] (λr=>(r,())) (λx=>strings_Compare x.1 x.2.1) (by kernel_rfl) (λx o h0=>by
 obtain⟨a,b,u⟩:=x;have h:strings_Compare a b=some o:=h0;clear h0;have D:o=Lib.compareBytes a b:=by rw[Db];exact(Option.some.inj h).symm
 subst D;exact(ue [.string ⟨a.toArray⟩,.string ⟨b.toArray⟩] (.int .i64 (Lib.compareBytes a b)) rfl rfl λw=>(alX ⟨a.toArray⟩ ⟨b.toArray⟩ w).mono λe w' ⟨h1,h2⟩=>⟨h1,QZ h2⟩))
end
end Go.Proofs.YtejhifnjgoclpaaGreatDoor.Fx
namespace Go.Proofs
open Go.Shelf
def Tryz.alp:Go.Shelf.Ren:=⟨λ|160=>415|232=>435|231=>434|227=>436|234=>438|233=>437|236=>440|235=>439|228=>450|271=>452|151=>451|197=>418|120=>456|152=>455|260=>442|137=>458|119=>459|224=>429|225=>428|217=>427|266=>446|n=>n,λ|9=>9|4=>4|3=>3|5=>5|117=>539|116=>538|0=>0|124=>542|21=>21|105=>522|46=>260|119=>548|139=>551|138=>550|n=>n,λ|3=>2|4=>3|n=>n⟩
theorem Tryz.arh:Go.Proofs.Lays.n160 at1 Tryz.alp:={
 mixed:=by kernel_rfl
 f119:=Tryz.func459.trans (congrArg some (by kernel_rfl))
 f120:=Tryz.func456.trans (congrArg some (by kernel_rfl))
 f137:=Tryz.func458.trans (congrArg some (by kernel_rfl))
 f151:=Tryz.func451.trans (congrArg some (by kernel_rfl))
 f152:=Tryz.func455.trans (congrArg some (by kernel_rfl))
 f160:=Tryz.func415.trans (congrArg some (by kernel_rfl))
 f197:=Tryz.func418.trans (congrArg some (by kernel_rfl))
 f217:=Tryz.func427.trans (congrArg some (by kernel_rfl))
 f224:=Tryz.func429.trans (congrArg some (by kernel_rfl))
 f225:=Tryz.func428.trans (congrArg some (by kernel_rfl))
 f227:=Tryz.func436.trans (congrArg some (by kernel_rfl))
 f228:=Tryz.func450.trans (congrArg some (by kernel_rfl))
 f231:=Tryz.func434.trans (congrArg some (by kernel_rfl))
 f232:=Tryz.func435.trans (congrArg some (by kernel_rfl))
 f233:=Tryz.func437.trans (congrArg some (by kernel_rfl))
 f234:=Tryz.func438.trans (congrArg some (by kernel_rfl))
 f235:=Tryz.func439.trans (congrArg some (by kernel_rfl))
 f236:=Tryz.func440.trans (congrArg some (by kernel_rfl))
 f260:=Tryz.func442.trans (congrArg some (by kernel_rfl))
 f266:=Tryz.func446.trans (congrArg some (by kernel_rfl))
 f271:=Tryz.func452.trans (congrArg some (by kernel_rfl))
 t0:=Tryz.underlying0
 a0:=Tryz.isAgg0
 z0:=Tryz.sizeOf0
 v0:=Tryz.zeroValue0
 t3:=Tryz.underlying3
 a3:=Tryz.isAgg3
 z3:=Tryz.sizeOf3
 v3:=Tryz.zeroValue3
 t4:=Tryz.underlying4
 a4:=Tryz.isAgg4
 z4:=Tryz.sizeOf4
 v4:=Tryz.zeroValue4
 t5:=Tryz.underlying5
 a5:=Tryz.isAgg5
 z5:=Tryz.sizeOf5
 v5:=Tryz.zeroValue5
 t9:=Tryz.underlying9
 a9:=Tryz.isAgg9
 z9:=Tryz.sizeOf9
 v9:=Tryz.zeroValue9
 t21:=Tryz.underlying21
 a21:=Tryz.isAgg21
 z21:=Tryz.sizeOf21
 v21:=Tryz.zeroValue21
 t46:=Tryz.underlying260
 a46:=Tryz.isAgg260
 z46:=Tryz.sizeOf260
 v46:=Tryz.zeroValue260
 t105:=Tryz.underlying522
 a105:=Tryz.isAgg522
 z105:=Tryz.sizeOf522
 v105:=Tryz.zeroValue522
 t116:=Tryz.underlying538
 a116:=Tryz.isAgg538
 z116:=Tryz.sizeOf538
 t117:=Tryz.underlying539
 a117:=Tryz.isAgg539
 z117:=Tryz.sizeOf539
 v117:=Tryz.zeroValue539
 t119:=Tryz.underlying548
 a119:=Tryz.isAgg548
 z119:=Tryz.sizeOf548
 t124:=Tryz.underlying542
 a124:=Tryz.isAgg542
 z124:=Tryz.sizeOf542
 v124:=Tryz.zeroValue542
 t138:=Tryz.underlying550
 a138:=Tryz.isAgg550
 z138:=Tryz.sizeOf550
 v138:=Tryz.zeroValue550
 t139:=Tryz.underlying551
 a139:=Tryz.isAgg551
 z139:=Tryz.sizeOf551
 v139:=Tryz.zeroValue551
 g3:=by kernel_rfl
 g4:=by kernel_rfl}
end Go.Proofs
namespace Go.Proofs.YtejhifnjgoclpaaGreatDoor.Fx
open Go.RowKit
set_option maxRecDepth 1000000
noncomputable section
def uC:List UInt8:=[48,49,50,51,52,53,54,55,56,57]
theorem ZK(c:UInt8):uC.contains c=bJ c:=by
 unfold bJ uC;rw[aB9];simp only[List.contains_cons,List.contains_nil,az0,beq_iff_eq,au0,decide_eq_true_eq,av7,or_false];constructor
 ·rintro(h|h|h|h|h|h|h|h|h|h)<;>(rw[h];decide)
 ·rintro⟨h1,h2⟩;have h:c.toNat=48\/c.toNat=49\/c.toNat=50\/c.toNat=51\/c.toNat=52\/c.toNat=53\/c.toNat=54\/c.toNat=55\/c.toNat=56\/c.toNat=57:=by omega
  have e:∀d:UInt8,c.toNat=d.toNat->c=d:=λd q=>UInt8.toNat_inj.1 q;rcases h with h|h|h|h|h|h|h|h|h|h
  ·exact .inl (e 48 h)
  ·exact .inr (.inl (e 49 h))
  ·exact .inr (.inr (.inl (e 50 h)))
  ·exact .inr (.inr (.inr (.inl (e 51 h))))
  ·exact .inr (.inr (.inr (.inr (.inl (e 52 h)))))
  ·exact .inr (.inr (.inr (.inr (.inr (.inl (e 53 h))))))
  ·exact .inr (.inr (.inr (.inr (.inr (.inr (.inl (e 54 h)))))))
  ·exact .inr (.inr (.inr (.inr (.inr (.inr (.inr (.inl (e 55 h))))))))
  ·exact .inr (.inr (.inr (.inr (.inr (.inr (.inr (.inr (.inl (e 56 h)))))))))
  ·exact .inr (.inr (.inr (.inr (.inr (.inr (.inr (.inr (.inr (e 57 h)))))))))
theorem dropWhile_nil{α:Type}{p:α->Bool}:∀{l:List α},l.dropWhile p=[]<->l.all p=true
 |[]=>⟨λ_=>rfl,λ_=>rfl⟩
 |x::t=>by
  rw[List.dropWhile_cons,ay4];rcases Bool.eq_false_or_eq_true (p x)with h|h
  ·rw[h,if_pos rfl,az4];exact dropWhile_nil
  ·rw[h,if_neg (by decide),aA6]
   exact⟨λq=>absurd q (List.cons_ne_nil _ _),λq=>by cases q⟩
theorem ani(l:List UInt8):Lib.trimS l uC=[]<->l.all bJ=true:=by
 have hf:(λc=>uC.contains c)=bJ:=funext ZK;unfold Lib.trimS Lib.trimLeftS Lib.trimRightS;rw[hf];constructor
 ·intro h;rw[dropWhile_nil,List.all_reverse]at h;rw[<-List.all_reverse];have e:=List.takeWhile_append_dropWhile (p:=bJ) (l:=l.reverse);rw[<-e,List.all_append,h,aD4];exact List.all_takeWhile
 ·intro h;have:l.reverse.dropWhile bJ=[]:=dropWhile_nil.2 (by rw[List.all_reverse];exact h)
  rw[this];rfl
theorem aqG(w:World):(zeroValue 538).run at1 w=.ok (.agg (aF7 256 (.bool false))) w:=by kernel_rfl
theorem below_drewN{B:Nat}{w w':World}(h:Below B w w')(q:Nat):Below B w (w'.drewN q):=by obtain⟨a,b,c,d,e⟩:=h;exact⟨a,b,c,d,e⟩
theorem aly(w:World):Calls at1 371 #[.string ⟨#[]⟩] w λe w'=>e=.returned (.bool true)/\Below w.heap.size w w':=by
 go_enter Tryz.func371,Tryz.ntmps371
 go_wp2
 go_ret
 exact⟨rfl,Below.refl _ _⟩
theorem alx(l X:List UInt8)(hX:Hid (Lib.trimS l uC=X))(h0:0<l.length)(hl:l.length<=1000000000)(w:World):Calls at1 371 #[.string ⟨l.toArray⟩] w λe w'=>e=.returned (.bool (decide (X=[])))/\Below w.heap.size w w':=by
 have ht:=Any.strings_Trim_set Tryz.arh aqG (by kernel_rfl) ⟨l.toArray⟩ ⟨uC.toArray⟩ w (by decide) h0 (show l.toArray.size<=_ by rw[aF5];omega) (by decide) (by
  intro j b hb;have:b∈uC:=List.mem_of_getElem? hb;have hd:bJ b=true:=by rw[<-ZK];exact List.contains_iff_mem.2 this
  unfold bJ at hd;simp only[au0,decide_eq_true_eq]at hd;omega)
 have e1:Lib.trimS (⟨l.toArray⟩:ByteArray).data.toList (⟨uC.toArray⟩:ByteArray).data.toList=X:=hX.out;rw[e1]at ht
 go_enter Tryz.func371,Tryz.ntmps371
 go_wp2_with fail
 refine Calls.mono ht ?_;rintro e w' ⟨rfl,q,rfl⟩;cases X with
 |nil=>
  go_wp2_with fail
  go_ret
  exact⟨rfl,below_drewN (((Below.refl _ w).alloc (at9 _) _).alloc (by simp) _) q⟩
 |cons x t=>
  go_wp2_with fail
  go_ret
  exact⟨rfl,below_drewN (((Below.refl _ w).alloc (at9 _) _).alloc (by simp) _) q⟩
noncomputable def WZ:cM at1:=mkB 371 ⟨[(0,.c (.v .str))],[]⟩ [(false,⟨[(2,.c (.v .bool))],[]⟩)] (λr=>(r,())) (λx=>tE x.1) (by kernel_rfl) (λx o h0=>by
 obtain⟨l,u⟩:=x;have h:tE l=some o:=h0;clear h0;unfold tE at h;split at h
 ·rename_i F;have J:o=l.all bJ:=(Option.some.inj h).symm;subst J;refine(ue [.string ⟨l.toArray⟩] (.bool (l.all bJ)) rfl rfl λw=>?_);by_cases h0:l=[]
  ·subst h0;exact aly w
  ·refine(alx l _ (au3 rfl) (ay5.2 h0) F w).mono ?_;rintro e w' ⟨rfl,D⟩;refine⟨?_,D⟩;congr 2;rw[aB9,decide_eq_true_eq];exact ani l
 ·cases h)
end
end Go.Proofs.YtejhifnjgoclpaaGreatDoor.Fx
namespace Go.Proofs
open Go.Shelf
def Tryz.alq:Go.Shelf.Ren:=⟨λ|146=>189|221=>295|268=>373|138=>374|143=>375|195=>417|197=>418|218=>419|219=>393|260=>442|217=>427|225=>428|224=>429|267=>430|266=>446|314=>447|n=>n,λ|9=>9|31=>22|3=>3|4=>4|0=>0|105=>522|21=>21|5=>5|46=>260|119=>548|139=>551|138=>550|146=>545|51=>102|n=>n,λ|1=>1|3=>2|4=>3|n=>n⟩
theorem Tryz.Tl:Go.Proofs.Lays.n146 at1 Tryz.alq:={
 mixed:=by kernel_rfl
 f138:=Tryz.func374.trans (congrArg some (by kernel_rfl))
 f143:=Tryz.func375.trans (congrArg some (by kernel_rfl))
 f146:=Tryz.func189.trans (congrArg some (by kernel_rfl))
 f195:=Tryz.func417.trans (congrArg some (by kernel_rfl))
 f197:=Tryz.func418.trans (congrArg some (by kernel_rfl))
 f217:=Tryz.func427.trans (congrArg some (by kernel_rfl))
 f218:=Tryz.func419.trans (congrArg some (by kernel_rfl))
 f219:=Tryz.func393.trans (congrArg some (by kernel_rfl))
 f221:=Tryz.func295.trans (congrArg some (by kernel_rfl))
 f224:=Tryz.func429.trans (congrArg some (by kernel_rfl))
 f225:=Tryz.func428.trans (congrArg some (by kernel_rfl))
 f260:=Tryz.func442.trans (congrArg some (by kernel_rfl))
 f266:=Tryz.func446.trans (congrArg some (by kernel_rfl))
 f267:=Tryz.func430.trans (congrArg some (by kernel_rfl))
 f268:=Tryz.func373.trans (congrArg some (by kernel_rfl))
 f314:=Tryz.func447.trans (congrArg some (by kernel_rfl))
 t0:=Tryz.underlying0
 a0:=Tryz.isAgg0
 z0:=Tryz.sizeOf0
 v0:=Tryz.zeroValue0
 t3:=Tryz.underlying3
 a3:=Tryz.isAgg3
 z3:=Tryz.sizeOf3
 v3:=Tryz.zeroValue3
 t4:=Tryz.underlying4
 a4:=Tryz.isAgg4
 z4:=Tryz.sizeOf4
 v4:=Tryz.zeroValue4
 t5:=Tryz.underlying5
 a5:=Tryz.isAgg5
 z5:=Tryz.sizeOf5
 v5:=Tryz.zeroValue5
 t9:=Tryz.underlying9
 a9:=Tryz.isAgg9
 z9:=Tryz.sizeOf9
 v9:=Tryz.zeroValue9
 t21:=Tryz.underlying21
 a21:=Tryz.isAgg21
 z21:=Tryz.sizeOf21
 v21:=Tryz.zeroValue21
 t31:=Tryz.underlying22
 a31:=Tryz.isAgg22
 z31:=Tryz.sizeOf22
 v31:=Tryz.zeroValue22
 t46:=Tryz.underlying260
 a46:=Tryz.isAgg260
 z46:=Tryz.sizeOf260
 v46:=Tryz.zeroValue260
 t51:=Tryz.underlying102
 a51:=Tryz.isAgg102
 z51:=Tryz.sizeOf102
 v51:=Tryz.zeroValue102
 t105:=Tryz.underlying522
 a105:=Tryz.isAgg522
 z105:=Tryz.sizeOf522
 v105:=Tryz.zeroValue522
 t119:=Tryz.underlying548
 a119:=Tryz.isAgg548
 z119:=Tryz.sizeOf548
 t138:=Tryz.underlying550
 a138:=Tryz.isAgg550
 z138:=Tryz.sizeOf550
 v138:=Tryz.zeroValue550
 t139:=Tryz.underlying551
 a139:=Tryz.isAgg551
 z139:=Tryz.sizeOf551
 v139:=Tryz.zeroValue551
 t146:=Tryz.underlying545
 a146:=Tryz.isAgg545
 z146:=Tryz.sizeOf545
 v146:=Tryz.zeroValue545
 g1:=by kernel_rfl
 g3:=by kernel_rfl
 g4:=by kernel_rfl}
end Go.Proofs
namespace Go.Proofs.YtejhifnjgoclpaaGreatDoor.Fx
open Go.RowKit
set_option maxRecDepth 1000000
noncomputable section
theorem index_hit(c:UInt8):∀(a r:List UInt8),c∉a->Lib.indexByte (a++c::r) c=(a.length:Int)
 |[],r,_=>by
  show(if c==c then(0:Int)else _)=0
  rw[beq_self_eq_true,if_pos rfl]
 |b::a,r,h=>by
  have D:(b==c)=false:=beq_eq_false_iff_ne.2 λe=>h (by rw[e];exact aw4)
  have F:=index_hit c a r (λq=>h (ax5 _ q));show(if b==c then(0:Int)else if Lib.indexByte (a++c::r) c== -1 then-1 else Lib.indexByte (a++c::r) c+1)=_
  rw[D,if_neg (by decide),F,if_neg (by simp),av1]
  rfl
theorem ZG(c:UInt8):∀(l:List UInt8),c∈l->∃a r,l=a++c::r/\c∉a
 |[],h=>(az1 h).elim
 |x::t,h=>by
  by_cases e:x=c
  ·exact⟨[],t,by rw[e];rfl,az1⟩
  ·have:c∈t:=by
     rcases aw2.1 h with q|q
     ·exact absurd q.symm e
     ·exact q
   obtain⟨a,r,h1,h2⟩:=ZG c t this;refine⟨x::a,r,by rw[h1];rfl,λq=>?_⟩
   rcases aw2.1 q with q|q
   ·exact e q.symm
   ·exact h2 q
theorem Y5(c:UInt8):∀(a r:List UInt8),c∉a->aw c (a++c::r)=a::aw c r
 |[],r,_=>by show(if c=c then[]::aw c r else _)=_;rw[if_pos rfl]
 |b::a,r,h=>by
  have D:¬b=c:=λe=>h (by rw[e];exact aw4)
  have F:=Y5 c a r (λq=>h (ax5 _ q));show(if b=c then[]::aw c (a++c::r)else match aw c (a++c::r)with|h::r=>(b::h)::r |[]=>[[b]])=_
  rw[if_neg D,F]
theorem Z7(c:UInt8):∀(l:List UInt8),c∉l->aw c l=[l]
 |[],_=>rfl
 |b::a,h=>by
  have D:¬b=c:=λe=>h (by rw[e];exact aw4)
  have F:=Z7 c a (λq=>h (ax5 _ q));show(if b=c then[]::aw c a else match aw c a with|h::r=>(b::h)::r |[]=>[[b]])=_
  rw[if_neg D,F]
theorem Z8(c:UInt8):∀(k:Nat) (l:List UInt8),l.count c=k->Lib.splitB ⟨#[c]⟩ 0 k ⟨l.toArray⟩=(aw c l).map λp=>(⟨p.toArray⟩:ByteArray)
 |0,l,h=>by have:c∉l:=List.count_eq_zero.1 h;rw[Z7 c l this];rfl
 |k+1,l,h=>by
  have hc:c∈l:=List.count_pos_iff.1 (by omega)
  obtain⟨a,r,rfl,D⟩:=ZG c l hc;have M:r.count c=k:=by rw[List.count_append,List.count_cons_self,List.count_eq_zero.2 D]at h;omega
  have L:Lib.indexB ⟨(a++c::r).toArray⟩ ⟨#[c]⟩=(a.length:Int):=by show Lib.index (a++c::r) [c]=_;rw[Lib.index_one,index_hit c a r D]
  have O:=Z8 c k r M;show(if Lib.indexB ⟨(a++c::r).toArray⟩ ⟨#[c]⟩== -1 then _ else _::Lib.splitB ⟨#[c]⟩ 0 k _)=_
  rw[L,if_neg (by simp),Y5 c a r D,av0,SC]
  have F:((a++c::r).take (a.length+0)).drop 0=a:=by rw[Nat.add_zero,ax7,aB2]
  have J:(ByteArray.mk (a++c::r).toArray).extract (a.length+(⟨#[c]⟩:ByteArray).size) (ByteArray.mk (a++c::r).toArray).size=⟨r.toArray⟩:=by
   have N:(ByteArray.mk (a++c::r).toArray).size=(a++c::r).length:=by show(a++c::r).toArray.size=_;rw[aF5]
   rw[N,abX];have:(a++c::r).drop (a.length+(⟨#[c]⟩:ByteArray).size)=r:=by show(a++c::r).drop (a.length+1)=r;rw[<-List.drop_drop,List.drop_left,List.drop_succ_cons,ax7]
   rw[this]
  rw[F,J,O];rfl
theorem anw(l:List UInt8)(c:UInt8)(w:World)(hl:l.length<4294967281):
  Calls at1 189 #[.string ⟨l.toArray⟩,.string ⟨#[c]⟩] w λe w'=>e=.returned (.slice (some ⟨w.heap.size,0,none⟩) (aw c l).length (aw c l).length)/\w'=w.alloc (.cells ((aw c l).map λp=>Value.string ⟨p.toArray⟩).toArray 9):=by
 have hs:(⟨l.toArray⟩:ByteArray).size<4294967281:=by show l.toArray.size<_;rw[aF5];exact hl
 have h1:1<=(⟨#[c]⟩:ByteArray).size:=at9 1;have hcb:Lib.countB ⟨l.toArray⟩ ⟨#[c]⟩=l.count c:=by show Lib.count l [c]=_;exact Lib.count_one c l
 have hle:=Lib.countB_le ⟨#[c]⟩ h1 (⟨l.toArray⟩:ByteArray).size ⟨l.toArray⟩ (at9 _);have hlen:=Lib.splitB_all ⟨#[c]⟩ h1 0 _ ⟨l.toArray⟩ rfl
 have core:=Any.strings_genSplit_core {Tryz.Tl with} (by kernel_rfl) ⟨l.toArray⟩ ⟨#[c]⟩ 0 (-1) (Lib.countB ⟨l.toArray⟩ ⟨#[c]⟩+1) w hs h1 (au2 _)
  (λx cc hx=>(Any.strings_Index_one {Tryz.Tl with} x c _).mono λe w' ⟨he,hw⟩=>⟨by rw[he];show _=Ending.returned (Value.int .i64 (Lib.index x.data.toList [c]));rw[Lib.index_one],hw⟩)
  ((Any.strings_Count_one {Tryz.Tl with} ⟨l.toArray⟩ c w).mono λe w' ⟨he,hw⟩=>⟨by rw[he];show _=Ending.returned (Value.int .i64 ((Lib.count l [c]:Nat):Int));rw[Lib.count_one];rfl,hw⟩)
  (by decide) (by decide) (by rw[if_pos (by decide)];omega)
 rw[Nat.add_sub_cancel,hlen]at core;have e2:Lib.cellsOf (Lib.splitB ⟨#[c]⟩ 0 (Lib.countB ⟨l.toArray⟩ ⟨#[c]⟩) ⟨l.toArray⟩) (Lib.countB ⟨l.toArray⟩ ⟨#[c]⟩+1)=((Lib.splitB ⟨#[c]⟩ 0 (Lib.countB ⟨l.toArray⟩ ⟨#[c]⟩) ⟨l.toArray⟩).map Value.string).toArray:=by rw[<-hlen];exact Lib.cellsOf_full _
 have e3:Lib.splitB ⟨#[c]⟩ 0 (Lib.countB ⟨l.toArray⟩ ⟨#[c]⟩) ⟨l.toArray⟩=(aw c l).map λp=>(⟨p.toArray⟩:ByteArray):=by rw[hcb];exact Z8 c _ l rfl
 rw[e2]at core;rw[e3,au1]at hlen;rw[e3,<-hlen,aA1]at core;have core:Calls at1 295 #[.string ⟨l.toArray⟩,.string ⟨#[c]⟩,.int .i64 0,.int .i64 (-1)] w λe w'=>e=.returned (.slice (some ⟨w.heap.size,0,none⟩) (aw c l).length (aw c l).length)/\w'=w.alloc (.cells ((aw c l).map λp=>Value.string ⟨p.toArray⟩).toArray 9):=core;clear e2 e3 hlen hcb hle hs h1
 go_enter Tryz.func189,Tryz.ntmps189
 go_wp2_with fail
 refine Calls.mono core ?_;rintro e w' ⟨rfl,rfl⟩
 go_wp2_with fail
 go_ret
 exact⟨rfl,rfl⟩
noncomputable def Dh:cM at1:=mkB 189 ⟨[(0,.c (.v .str)),(1,.c (.v .str))],[]⟩ [(false,⟨[(4,.c (.v (.sl .str)))],[]⟩)] (λr=>(r,())) (λx=>strings_Split x.1 x.2.1) (by kernel_rfl) (λx o h0=>by
 obtain⟨l,s,u⟩:=x;have h:strings_Split l s=some o:=h0;clear h0;unfold strings_Split at h;split at h
 ·rename_i c;split at h
  ·rename_i J;have L:o=aw c l:=(Option.some.inj h).symm;subst L;refine fw.pure λA w vals U _ N=>?_;obtain rfl:=TX (vs:=[.string ⟨l.toArray⟩,.string ⟨#[c]⟩]) rfl N;refine(anw l c w J).mono ?_;rintro e w' ⟨rfl,rfl⟩;have F:Below w.heap.size w (w.alloc (.cells ((aw c l).map λp=>Value.string ⟨p.toArray⟩).toArray 9)):=(Below.refl _ w).alloc (at9 _) _;have M:(w.alloc (.cells ((aw c l).map λp=>Value.string ⟨p.toArray⟩).toArray 9)).heap.size=w.heap.size+1:=by simp
   have Y:(aw c l).length<=4294967281:=by
    have:∀l:List UInt8,(aw c l).length<=l.length+1:=by
     intro l
     induction l with
     |nil=>exact at9 _
     |cons b t D=>
      show(if b=c then[]::aw c t else match aw c t with|h::r=>(b::h)::r |[]=>[[b]]).length<=_
      split
      ·simp only[av1];omega
      ·split
       ·rename_i h r e;rw[e]at D;simp only[av1]at D⊢;omega
       ·simp
    have:=this l;omega
   refine⟨_,λb i=>A b i\/(w.heap.size<=b/\b<w.heap.size+1),rfl,gv.qv F,λb i h=>.inl h,λb i h=>by rw[M];exact h,rfl,_,_,rfl,.inr ⟨at9 _,by unfold maxLen;omega,w.heap.size,0,rfl,λi x O=>⟨.inr ⟨at9 _,Nat.lt_succ_self _⟩,?_⟩⟩⟩
   simp [go_sem,wid,O]
  ·cases h
 ·cases h)
theorem heap_drew(w:World):w.drew.heap=w.heap:=rfl
theorem kF(w:World)(o:Obj)(k:Nat):(w.alloc o).heap[k]? =if k=w.heap.size then some o else w.heap[k]? :=by show(w.heap.push o)[k]? =_;rw[Array.getElem?_push]
theorem Q1(w:World)(c cs:Array Value)(t:TypeId):((w.alloc (.cells c t)).drew).setRow w.heap.size cs=(w.alloc (.cells cs t)).drew:=by
 have D:((w.alloc (.cells c t)).drew).heap[w.heap.size]? =some (.cells c t (0,0)):=by rw[heap_drew,kF,if_pos rfl]
 have F:(((w.alloc (.cells c t)).drew).setRow w.heap.size cs).heap=((w.alloc (.cells cs t)).drew).heap:=by
  apply Array.ext_getElem?;intro k;by_cases h:k=w.heap.size
  ·rw[h,setRow_heap _ _ _ _ _ _ D,heap_drew,kF,if_pos rfl]
  ·rw[setRow_other _ _ _ _ h,heap_drew,heap_drew,kF,kF,if_neg h,if_neg h]
 have e:((w.alloc (.cells c t)).drew).setRow w.heap.size cs={(w.alloc (.cells c t)).drew with heap:=(((w.alloc (.cells c t)).drew).setRow w.heap.size cs).heap}:=rfl
 rw[e,F];rfl
set_option maxHeartbeats 1600000 in
theorem asa (a b c:Int) (s:ByteArray) (w:World) (h0:0<=a) (h1:a<9223372036854775807):
  Calls at1 445 #[.agg #[.int .i64 a,.int .i64 b,.int .i64 c,.string s],.int .i64 0] w λe w'=>e=.returned (.agg #[.int .i64 (a+1),.int .i64 0,.int .i64 0,.string ⟨#[]⟩])/\Below w.heap.size w w':=by
 have hw1:IntKind.i64.wrap 1=1:=by decide
 have hw3:IntKind.i64.wrap (a+1)=a+1:=wrap_i64 (by omega)
 have hcp:(Builtin.copy_ #[55,55] 3 #[.slice (some ⟨w.heap.size+1+1,0,none⟩) 3 3,.slice (some ⟨w.heap.size,0,none⟩) 1 3]).run at1
   (((w.alloc (.cells #[.int .i64 a,.int .i64 b,.int .i64 c,.string s] 145)).alloc (.cells #[.int .i64 0,.int .i64 0,.int .i64 0,.string ⟨#[]⟩] 145)).alloc (.cells #[.int .i64 0,.int .i64 0,.int .i64 0,.string ⟨#[]⟩] 145)).drew=
   .ok (goInt 1) (((w.alloc (.cells #[.int .i64 a,.int .i64 b,.int .i64 c,.string s] 145)).alloc (.cells #[.int .i64 0,.int .i64 0,.int .i64 0,.string ⟨#[]⟩] 145)).alloc (.cells #[.int .i64 a,.int .i64 0,.int .i64 0,.string ⟨#[]⟩] 145)).drew:=by
  generalize hw2:(w.alloc (.cells #[.int .i64 a,.int .i64 b,.int .i64 c,.string s] 145)).alloc (.cells #[.int .i64 0,.int .i64 0,.int .i64 0,.string ⟨#[]⟩] 145)=w2;have hsz:w2.heap.size=w.heap.size+1+1:=by rw[<-hw2];simp
  have hat:w2.heap[w.heap.size]? =some (.cells #[.int .i64 a,.int .i64 b,.int .i64 c,.string s] 145 (0,0)):=by rw[<-hw2,kF,if_neg (by simp),kF,if_pos rfl]
  rw[<-hsz];refine(run_copy_row (P:=at1) _ _ _ _ 3 w2.heap.size 0 3 3 ⟨w.heap.size,0,none⟩ 1 3 #[.int .i64 0,.int .i64 0,.int .i64 0,.string ⟨#[]⟩] 145 [.int .i64 a] (by kernel_rfl) (by kernel_rfl) (by rw[heap_drew,kF,if_pos rfl]) rfl (λj v hj=>?_) (by simp) (λv hv=>by rw[aw0.1 hv];rfl)).trans ?_
  ·have hx:((w2.alloc (.cells #[.int .i64 0,.int .i64 0,.int .i64 0,.string ⟨#[]⟩] 145)).drew).heap[w.heap.size]? =some (.cells #[.int .i64 a,.int .i64 b,.int .i64 c,.string s] 145 (0,0)):=by
     rw[heap_drew,kF,if_neg (by omega),hat]
   match j,hj with
   |0,hj=>have hv:v=.int .i64 a:=(Option.some.inj hj).symm;subst hv;show World.cell? _ ⟨w.heap.size,0+0,none⟩=_;unfold World.cell?;simp only[hx];rfl
   |(j+1),hj=>cases hj
  ·rw[Q1];rfl
 go_enter Tryz.func445,Tryz.ntmps445
 go_wp2_with fail
 go_region
 go_wp2_with fail
 refine bodyPost_ret (v:=.agg #[.int .i64 (a+1),.int .i64 0,.int .i64 0,.string ⟨#[]⟩]) (by simp [results,Tryz.results445,go_sem]) rfl ⟨rfl,?_⟩
 exact((((Below.refl _ w).alloc (at9 _) _).alloc (by simp) _).alloc (by simp;omega) _).drew
set_option maxHeartbeats 1600000 in
theorem TM (a b c:Int) (s:ByteArray) (w:World) (h0:0<=b) (h1:b<9223372036854775807):
  Calls at1 445 #[.agg #[.int .i64 a,.int .i64 b,.int .i64 c,.string s],.int .i64 1] w λe w'=>e=.returned (.agg #[.int .i64 a,.int .i64 (b+1),.int .i64 0,.string ⟨#[]⟩])/\Below w.heap.size w w':=by
 have hw1:IntKind.i64.wrap 2=2:=by decide
 have hw3:IntKind.i64.wrap (b+1)=b+1:=wrap_i64 (by omega)
 have hcp:(Builtin.copy_ #[55,55] 3 #[.slice (some ⟨w.heap.size+1+1,0,none⟩) 3 3,.slice (some ⟨w.heap.size,0,none⟩) 2 3]).run at1
   (((w.alloc (.cells #[.int .i64 a,.int .i64 b,.int .i64 c,.string s] 145)).alloc (.cells #[.int .i64 0,.int .i64 0,.int .i64 0,.string ⟨#[]⟩] 145)).alloc (.cells #[.int .i64 0,.int .i64 0,.int .i64 0,.string ⟨#[]⟩] 145)).drew=
   .ok (goInt 2) (((w.alloc (.cells #[.int .i64 a,.int .i64 b,.int .i64 c,.string s] 145)).alloc (.cells #[.int .i64 0,.int .i64 0,.int .i64 0,.string ⟨#[]⟩] 145)).alloc (.cells #[.int .i64 a,.int .i64 b,.int .i64 0,.string ⟨#[]⟩] 145)).drew:=by
  generalize hw2:(w.alloc (.cells #[.int .i64 a,.int .i64 b,.int .i64 c,.string s] 145)).alloc (.cells #[.int .i64 0,.int .i64 0,.int .i64 0,.string ⟨#[]⟩] 145)=w2;have hsz:w2.heap.size=w.heap.size+1+1:=by rw[<-hw2];simp
  have hat:w2.heap[w.heap.size]? =some (.cells #[.int .i64 a,.int .i64 b,.int .i64 c,.string s] 145 (0,0)):=by rw[<-hw2,kF,if_neg (by simp),kF,if_pos rfl]
  rw[<-hsz];refine(run_copy_row (P:=at1) _ _ _ _ 3 w2.heap.size 0 3 3 ⟨w.heap.size,0,none⟩ 2 3 #[.int .i64 0,.int .i64 0,.int .i64 0,.string ⟨#[]⟩] 145 [.int .i64 a,.int .i64 b] (by kernel_rfl) (by kernel_rfl) (by rw[heap_drew,kF,if_pos rfl]) rfl (λj v hj=>?_) (by simp) (λv hv=>by simp at hv;rcases hv with rfl|rfl<;>rfl)).trans ?_
  ·have hx:((w2.alloc (.cells #[.int .i64 0,.int .i64 0,.int .i64 0,.string ⟨#[]⟩] 145)).drew).heap[w.heap.size]? =some (.cells #[.int .i64 a,.int .i64 b,.int .i64 c,.string s] 145 (0,0)):=by
     rw[heap_drew,kF,if_neg (by omega),hat]
   match j,hj with
   |0,hj=>have hv:v=.int .i64 a:=(Option.some.inj hj).symm;subst hv;show World.cell? _ ⟨w.heap.size,0+0,none⟩=_;unfold World.cell?;simp only[hx];rfl
   |1,hj=>have hv:v=.int .i64 b:=(Option.some.inj hj).symm;subst hv;show World.cell? _ ⟨w.heap.size,0+1,none⟩=_;unfold World.cell?;simp only[hx];rfl
   |(j+2),hj=>cases hj
  ·rw[Q1];rfl
 go_enter Tryz.func445,Tryz.ntmps445
 go_wp2_with fail
 go_region
 go_wp2_with fail
 refine bodyPost_ret (v:=.agg #[.int .i64 a,.int .i64 (b+1),.int .i64 0,.string ⟨#[]⟩]) (by simp [results,Tryz.results445,go_sem]) rfl ⟨rfl,?_⟩
 exact((((Below.refl _ w).alloc (at9 _) _).alloc (by simp) _).alloc (by simp;omega) _).drew
set_option maxHeartbeats 1600000 in
theorem TL (a b c:Int) (s:ByteArray) (w:World) (h0:0<=c) (h1:c<9223372036854775807):
  Calls at1 445 #[.agg #[.int .i64 a,.int .i64 b,.int .i64 c,.string s],.int .i64 2] w λe w'=>e=.returned (.agg #[.int .i64 a,.int .i64 b,.int .i64 (c+1),.string ⟨#[]⟩])/\Below w.heap.size w w':=by
 have hw1:IntKind.i64.wrap 3=3:=by decide
 have hw3:IntKind.i64.wrap (c+1)=c+1:=wrap_i64 (by omega)
 have hcp:(Builtin.copy_ #[55,55] 3 #[.slice (some ⟨w.heap.size+1+1,0,none⟩) 3 3,.slice (some ⟨w.heap.size,0,none⟩) 3 3]).run at1
   (((w.alloc (.cells #[.int .i64 a,.int .i64 b,.int .i64 c,.string s] 145)).alloc (.cells #[.int .i64 0,.int .i64 0,.int .i64 0,.string ⟨#[]⟩] 145)).alloc (.cells #[.int .i64 0,.int .i64 0,.int .i64 0,.string ⟨#[]⟩] 145)).drew=
   .ok (goInt 3) (((w.alloc (.cells #[.int .i64 a,.int .i64 b,.int .i64 c,.string s] 145)).alloc (.cells #[.int .i64 0,.int .i64 0,.int .i64 0,.string ⟨#[]⟩] 145)).alloc (.cells #[.int .i64 a,.int .i64 b,.int .i64 c,.string ⟨#[]⟩] 145)).drew:=by
  generalize hw2:(w.alloc (.cells #[.int .i64 a,.int .i64 b,.int .i64 c,.string s] 145)).alloc (.cells #[.int .i64 0,.int .i64 0,.int .i64 0,.string ⟨#[]⟩] 145)=w2;have hsz:w2.heap.size=w.heap.size+1+1:=by rw[<-hw2];simp
  have hat:w2.heap[w.heap.size]? =some (.cells #[.int .i64 a,.int .i64 b,.int .i64 c,.string s] 145 (0,0)):=by rw[<-hw2,kF,if_neg (by simp),kF,if_pos rfl]
  rw[<-hsz];refine(run_copy_row (P:=at1) _ _ _ _ 3 w2.heap.size 0 3 3 ⟨w.heap.size,0,none⟩ 3 3 #[.int .i64 0,.int .i64 0,.int .i64 0,.string ⟨#[]⟩] 145 [.int .i64 a,.int .i64 b,.int .i64 c] (by kernel_rfl) (by kernel_rfl) (by rw[heap_drew,kF,if_pos rfl]) rfl (λj v hj=>?_) (by simp) (λv hv=>by simp at hv;rcases hv with rfl|rfl|rfl<;>rfl)).trans ?_
  ·have hx:((w2.alloc (.cells #[.int .i64 0,.int .i64 0,.int .i64 0,.string ⟨#[]⟩] 145)).drew).heap[w.heap.size]? =some (.cells #[.int .i64 a,.int .i64 b,.int .i64 c,.string s] 145 (0,0)):=by
     rw[heap_drew,kF,if_neg (by omega),hat]
   match j,hj with
   |0,hj=>have hv:v=.int .i64 a:=(Option.some.inj hj).symm;subst hv;show World.cell? _ ⟨w.heap.size,0+0,none⟩=_;unfold World.cell?;simp only[hx];rfl
   |1,hj=>have hv:v=.int .i64 b:=(Option.some.inj hj).symm;subst hv;show World.cell? _ ⟨w.heap.size,0+1,none⟩=_;unfold World.cell?;simp only[hx];rfl
   |2,hj=>have hv:v=.int .i64 c:=(Option.some.inj hj).symm;subst hv;show World.cell? _ ⟨w.heap.size,0+2,none⟩=_;unfold World.cell?;simp only[hx];rfl
   |(j+3),hj=>cases hj
  ·rw[Q1];rfl
 go_enter Tryz.func445,Tryz.ntmps445
 go_wp2_with fail
 go_region
 go_wp2_with fail
 refine bodyPost_ret (v:=.agg #[.int .i64 a,.int .i64 b,.int .i64 (c+1),.string ⟨#[]⟩]) (by simp [results,Tryz.results445,go_sem]) rfl ⟨rfl,?_⟩
 exact((((Below.refl _ w).alloc (at9 _) _).alloc (by simp) _).alloc (by simp;omega) _).drew
theorem apB(a b c:Int)(s:ByteArray)(p:Int)(h:p<0\/2<p)(w:World):
  Calls at1 445 #[.agg #[.int .i64 a,.int .i64 b,.int .i64 c,.string s],.int .i64 p] w λe w'=>e=.returned (.agg #[.int .i64 0,.int .i64 0,.int .i64 0,.string ⟨#[]⟩])/\Below w.heap.size w w':=by
 rcases h with h|h
 ·have h1:=decide_eq_true h
  go_enter Tryz.func445,Tryz.ntmps445
  go_wp2_with fail
  refine bodyPost_ret (v:=.agg #[.int .i64 0,.int .i64 0,.int .i64 0,.string ⟨#[]⟩]) (by simp [results,Tryz.results445,go_sem]) rfl ⟨rfl,?_⟩
  exact((Below.refl _ w).alloc (at9 _) _).alloc (by simp) _
 ·have h1:¬p<0:=by omega
  go_enter Tryz.func445,Tryz.ntmps445
  go_wp2_with fail
  refine bodyPost_ret (v:=.agg #[.int .i64 0,.int .i64 0,.int .i64 0,.string ⟨#[]⟩]) (by simp [results,Tryz.results445,go_sem]) rfl ⟨rfl,?_⟩
  exact((Below.refl _ w).alloc (at9 _) _).alloc (by simp) _
def Gg(v:cN):List Value:=[.int .i64 v.1.1,.int .i64 v.1.2.1,.int .i64 v.1.2.2,.string ⟨v.2.toArray⟩]
noncomputable def agT:cM at1:=mkB 445 ⟨[(0,.st (.pair (.pair (.int .i64) (.pair (.int .i64) (.int .i64))) .str)),(1,.c (.v (.int .i64)))],[]⟩ [(false,⟨[(3000004,.st (.pair (.pair (.int .i64) (.pair (.int .i64) (.int .i64))) .str))],[]⟩)] (λr=>(r,())) (λx=>mK x.1 x.2.1) (by kernel_rfl) (λx o h0=>by
 obtain⟨v,p,u⟩:=x;have h:mK v p=some o:=h0;clear h0;refine ue [.agg (Gg v).toArray,.int .i64 p] (.agg (Gg o).toArray) rfl rfl λw=>?_;unfold mK at h;split at h
 ·rename_i e;subst e;split at h
  ·rename_i q;have D:=(Option.some.inj h).symm;subst D;exact asa _ _ _ _ w q.1 q.2
  ·cases h
 ·rename_i F;split at h
  ·rename_i e;subst e;split at h
   ·rename_i q;have D:=(Option.some.inj h).symm;subst D;exact TM _ _ _ _ w q.1 q.2
   ·cases h
  ·rename_i J;split at h
   ·rename_i e;subst e;split at h
    ·rename_i q;have D:=(Option.some.inj h).symm;subst D;exact TL _ _ _ _ w q.1 q.2
    ·cases h
   ·rename_i L;have D:=(Option.some.inj h).symm;subst D;have F:¬(p:Int)=0:=F;have J:¬(p:Int)=1:=J;have L:¬(p:Int)=2:=L;exact apB _ _ _ _ p (by omega) w)
section
open Go.Sort
theorem acw{i j n m:Nat}(D:i<m)(F:j<=n):i*n+j<=m*n:=by have h1:(i+1)*n<=m*n:=az8 _ D;rw[Nat.add_mul,Nat.one_mul]at h1;omega
def fH(t:Ty)(x:den t):List Value:=(fG (cA t x)).getD []
theorem ap8{l q:List DC}{us vs:List Value}(h1:fG l=some us)(h2:fG q=some vs):fG (l++q)=some (us++vs):=by
 induction l generalizing us with
 |nil=>injection h1 with h1;subst h1;exact h2
 |cons x r J=>
  unfold fG at h1;split at h1<;>try (cases h1;done)
  rename_i F D;injection h1 with h1;subst h1;show fG (x::(r++q))=_;unfold fG;rw[F,J D];rfl
theorem Lk:∀{t:Ty} (x:den t),kP t=true->fG (cA t x)=some (fH t x)
 |.pair a b,x,h=>by have h:(kP a&&kP b)=true:=h;rw[au0]at h;have e:=ap8 (Lk x.1 h.1) (Lk x.2 h.2);have e:fG (cA (.pair a b) x)=some (fH a x.1++fH b x.2):=e;unfold fH at e⊢;rw[e];rfl
 |.unit,_,_=>rfl
 |.int k,_,_=>rfl
 |.bool,_,_=>rfl
 |.str,_,_=>rfl
 |.gK k,_,_=>rfl
 |.val,_,_=>rfl
 |.sl _,_,h=>by cases h
 |.ptr _,_,h=>by cases h
 |.opt _,_,h=>by cases h
section
variable {c:Cx} {h:Hp} {w:World} {t:Ty}
theorem SE(D:kP t=true)(x:den t):au (CR c h w) (fH t x) (cA t x):=SD (Lk x D)
theorem aa0(D:kP t=true)(x:den t):(fH t x).length=wid t:=by rw[(SE (c:=⟨λ_=>undef,λ_ _=>True⟩) (h:=fq) (w:=default) D x).len,ja]
theorem aqb(N:kP t=true)(x:den t):∀v∈fH t x,v.oneCell'=true:=λv O=>by obtain⟨i,F⟩:=List.mem_iff_getElem?.1 O;have L:=SE (c:=⟨λ_=>undef,λ_ _=>True⟩) (h:=fq) (w:=default) N x;have J:=(ay9.1 F).1;rw[L.len]at J;obtain⟨u,D,M⟩:=L.get (au4 J);rw[F]at D;injection D with D;subst D;exact M.one
theorem arw(F:kP t=true){l:List (den t)}{xs:List Value}(M:au (CR c h w) xs (aQ t l)){i j:Nat}(J:i<l.length)(D:j<wid t):xs[i*wid t+j]? =some ((fH t l[i])[j]'(by rw[aa0 F];exact D)):=by
 obtain⟨r,L⟩:=E' (au4 J);have h1:=M.drop (i*wid t);rw[L]at h1;have h2:=h1.take (cA t l[i]).length;rw[aB2]at h2;have e:=Ap h2 (Lk _ F);have:((xs.drop (i*wid t)).take (cA t l[i]).length)[j]? =xs[i*wid t+j]? :=by rw[aF0 (by rw[ja];exact D),aG7]
 rw[<-this,e,au4]
end
theorem Conc.atd{c:Cx}{w w':World}{k:Nat}{e:TypeId}{t:Ty}{l D:List (den t)}{xs':List Value}(hC:Conc (cS w c (aj [(k,.row [] e t l)])) c (aj [(k,.row [] e t l)]) w)(O:dw k=false)(hlen:D.length=l.length)(U:Ext (Bl c (aj [(k,.row [] e t l)]) k) w w')
  (M:eB w' e (wid t) (c.m k) D.length xs') (N:au (CR c (aj [(k,.row [] e t D)]) w') xs' (aQ t D)):Conc (cS w c (aj [(k,.row [] e t l)])) c (aj [(k,.row [] e t D)]) w':=by
 have F:aj [(k,aR.row [] e t l)] k=some (.row [] e t l):=if_pos rfl;refine(hC.put k (o':=.row [] e t D) (c':=c) (if_pos rfl) (λj J=>⟨?_,rfl⟩) rfl U (λb L=>.inl ⟨⟨_,F⟩,L⟩) (.inl O) (s:=false) (λq=>by cases q) (λo q=>?_) λ_=>⟨_,_,_,xs',rfl,((hC.obj k _ F).row rfl).1,M,N⟩).1
 ·show(if k=j then _ else _)=if k=j then _ else _
  rw[if_neg (Ne.symm J),if_neg (Ne.symm J)]
 ·rw[F]at q;injection q with q;subst q
  exact⟨[],rfl,.inl ⟨λg n q=>by
   have e:cD (.row [] e t D) g=cD (.row [] e t l) g:=by show([]++[some D.length])[g]? =([]++[some l.length])[g]?;rw[hlen]
   rw[e];exact q,.inl ⟨hlen,rfl⟩⟩⟩
theorem fn0{c:Cx}{h:Hp}{w:World}{v:Value}{f:Fn}(D:SR c h w v (.fn f [] [])):v=.func f #[] #[]:=by obtain⟨vs,us,rfl,h1,h2⟩:=D;cases h1;cases h2;rfl
section
variable {P:Program} {ρ:Go.Shelf.Ren} {α:Type}
variable [Inhabited α]
theorem ZF{enc:α->List Value}{l:List α}{i j n:Nat}(hk:∀x,(enc x).length=n)(F:i<l.length)(D:j<n):(flatK enc n l.toArray)[i*n+j]! =(enc l[i])[j]'(by rw[hk];exact D):=by
 have M:i*n+j<l.toArray.size*n:=by have:=acw (i:=i) (n:=n) (m:=l.length) (j:=j+1) F D;simp;omega
 rw[get_flatK enc n _ _ M];have J:(i*n+j)/n=i:=by rw[aB6,Nat.add_mul_div_right _ _ (by omega),Nat.div_eq_of_lt D,ax2]
 have L:(i*n+j)%n=j:=by rw[aB6,Nat.add_mul_mod_self_right];exact Nat.mod_eq_of_lt D
 rw[J,L];simp [F,hk,D]
end
theorem anx{P:Program}{ρ:Go.Shelf.Ren}{t:Ty}[Inhabited (den t)](L:SlLaysF0.n6 P ρ)(ht:kP t=true)(hn:0<wid t)(aE:∀w,(isAgg (ρ.t 24)).run P w=.ok true w)(zE:∀w,(Go.sizeOf (ρ.t 24)).run P w=.ok (wid t) w)(cf:den t->den t->Int)(hO:SWO (ltOf cf))(g:Nat)
  (eg:∀args w,(callFunc g args).run P w=.ok (.enter g args) w) (a7:∀dZ off size w,CmpLays P g #[] (fH t) (wid t) cf dZ off size w) (hT:∀x y,(ltOf cf) x y=false->(ltOf cf) y x=false->x=y) (e:TypeId) (l:List (den t)) (hl:l.length<4611686018427387904):
  fw P (ρ.f 6) [.c (.ow 1000 0 .all),.fn (.func g) [] []] [(1000,.row [] e t l)] (.ret (.eR []) [(1000,.row [] e t (l.mergeSort λx y=> !(ltOf cf) y x))]):=by
 intro c w vals hC hv;have hk:=aa0 ht;have h1:=aqb ht;obtain⟨v0,v1,rfl,e0,e1⟩:=aqB hv;have ho:aj [(1000,aR.row [] e t l)] 1000=some (.row [] e t l):=rfl;obtain⟨_,_,_,_,q0⟩:=iO (w:=w) (H:=[(1000,aR.row [] e t l)]) (λ_ _ h=>h) (show rowAt [(1000,aR.row [] e t l)] 1000 0=some (.row [] e t l) from rfl) e0
 have q0:v0=c.m 1000:=q0;have q1:=fn0 e1;obtain⟨b4,xs,Z,ah⟩:=(hC.obj 1000 _ ho).row rfl;have Z:eB w e (wid t) (c.m 1000) l.length xs:=Z;have ah:au (CR c (aj [(1000,aR.row [] e t l)]) w) xs (aQ t l):=ah;subst q0;subst q1;by_cases h0:l=[]
 ·subst h0
  have hz:∃p cap,c.m 1000=.slice p 0 cap:=by
   rcases Z with⟨a,r,_⟩|⟨g',cap,cur,r,_⟩
   ·exact⟨_,_,r⟩
   ·exact⟨_,_,r⟩
  obtain⟨p,cap,hz⟩:=hz;have:=AnyF.slices_SortFunc_none (P:=P) (ρ:=ρ) {L with} p cap (.func (.func g) #[] #[]) w
  rw[<-hz]at this;refine this.mono ?_;rintro e' w' ⟨rfl,rfl⟩;rw[List.mergeSort_nil];exact⟨c,_,rfl,hC,SR.unit _ _ _⟩
 ·have b5:0<l.length:=ay5.2 h0;rcases Z with⟨_,_,e0,_⟩|⟨b,cap,cur,e2,U,e4,e5,e6,e7⟩
  ·omega
  have ar:b<w.heap.size:=wc U;have a8:l.length*wid t<=cur.size:=by rw[e6];exact az8 _ e4
  have a6:∀i j,(M:i<l.length)->(F:j<wid t)->cur[i*wid t+j]? =some ((fH t l[i])[j]'(by rw[hk];exact F)):=λi j M F=>by
   have b3:=acw (i:=i) (n:=wid t) (m:=l.length) (j:=j+1) M F;have:=arw ht ah M F;rw[<-this,<-e7,aF0 (by omega)]
   simp
  have hH:HoldsK (fH t) (wid t) w b 0 l.toArray:=λj F=>by
   rw[size_flatK]at F;have F:j<l.length*wid t:=by simpa using F
   have M:j/wid t<l.length:=Nat.div_lt_of_lt_mul (by rw[aB5];exact F)
   have N:j %wid t<wid t:=Nat.mod_lt _ hn;have ej:j=(j/wid t)*wid t+j %wid t:=by rw[aB5];exact(Nat.div_add_mod j (wid t)).symm
   refine⟨?_,by simp [World.frozen?,U]⟩
   rw[ax2];generalize j/wid t=i at*;generalize j %wid t=r at*;subst ej;rw[ZF hk M N];simp only[World.cell?,U,Option.isSome_none,av7,if_false];exact a6 i r M N
  have:=AnyQ.slices_SortFunc_total L (wid t) aE zE (fH t) hk h1 cf hO g #[] b 0 (cap+1) l.toArray w eg (a7 b 0 _ w) hH ar (by simpa using hl) hT
  have hs:l.toArray.size=l.length:=by simp
  rw[hs,<-e2]at this;refine this.mono ?_;rintro e' w' ⟨rfl,q,os,rfl⟩;generalize b1:(l.toArray.toList.mergeSort λx y=> !(ltOf cf) y x)=D;have b2:(l.mergeSort λx y=> !(ltOf cf) y x)=D:=b1;have an:D.length=l.length:=by rw[<-b2,List.length_mergeSort]
  have az:∀J,J<w.heap.size->(sortWorldK (fH t) (wid t) w b 0 q D.toArray os).heap[J]? =(putRowK (fH t) (wid t) (Sort.ahead w q) b 0 D.toArray).heap[J]? :=λJ hb=>by
   have:J<(putRowK (fH t) (wid t) (Sort.ahead w q) b 0 D.toArray).heap.size:=by unfold putRowK;rw[size_putRow];exact hb
   show((putRowK (fH t) (wid t) (Sort.ahead w q) b 0 D.toArray).heap++os)[J]? =_;rw[Array.getElem?_append_left this]
  have bp:(sortWorldK (fH t) (wid t) w b 0 q D.toArray os).heap[b]? =some (.cells (putCells id 0 (flatK (fH t) (wid t) D.toArray) cur) e (0,0)):=by rw[az b ar];show((Sort.ahead w q).heap.modify b (onCells _))[b]? =_;rw[Array.getElem?_modify,if_pos rfl];show Option.map _ (w.heap[b]?)=_;rw[U];rfl
  refine⟨c,_,rfl,hC.atd rfl (xs':=(flatK (fH t) (wid t) D.toArray).toList) an ⟨rfl,rfl,rfl,?_,λJ hb bx=>?_⟩ ?_ (au.of ?_ λi u d g1 g2=>?_),SR.unit _ _ _⟩
  ·show w.heap.size<=((putRowK (fH t) (wid t) (Sort.ahead w q) b 0 D.toArray).heap++os).size;rw[Array.size_append];have:(putRowK (fH t) (wid t) (Sort.ahead w q) b 0 D.toArray).heap.size=w.heap.size:=by unfold putRowK;rw[size_putRow];rfl
   omega
  ·rw[az J hb];show((Sort.ahead w q).heap.modify b (onCells _))[J]? =_;have a1:¬b=J:=λe9=>bx ⟨⟨_,ho⟩,by rw[e2,e9];rfl⟩
   rw[Array.getElem?_modify,if_neg a1];rfl
  ·rw[an];refine .inr ⟨b,cap,_,e2,bp,e4,e5,by simpa[putCells]using e6,?_⟩
   apply List.ext_getElem
   ·simp [putCells,an,a8]
   ·intro j g1 g2;have F:j<D.toArray.size*wid t:=by simpa using g2
    have O:j<(flatK (fH t) (wid t) D.toArray).size:=by rw[size_flatK];exact F
    simp only[putCells,List.getElem_take,Array.getElem_toList,Array.getElem_mapIdx,au2,ax2,true_and,Nat.sub_zero,id];rw[if_pos O];exact getElem!_pos (flatK (fH t) (wid t) D.toArray) j O
  ·rw[ik];simp [size_flatK]
  ·have F:i<D.length*wid t:=by rw[<-ik];exact(ay9.1 g2).1
   have M:i/wid t<D.length:=Nat.div_lt_of_lt_mul (by rw[aB5];exact F)
   have N:i %wid t<wid t:=Nat.mod_lt _ hn;have ej:i=(i/wid t)*wid t+i %wid t:=by rw[aB5];exact(Nat.div_add_mod i (wid t)).symm
   generalize i/wid t=a at*;generalize i %wid t=r at*;subst ej;have hf:=ZF (l:=D) hk M N;have O:a*wid t+r<(flatK (fH t) (wid t) D.toArray).size:=by rw[size_flatK];simpa using F
   rw[getElem!_pos (flatK (fH t) (wid t) D.toArray) (a*wid t+r) O]at hf;rw[Array.getElem?_toList,Array.getElem?_eq_getElem O,hf]at g1;injection g1 with g1;subst g1;obtain⟨r2,b0⟩:=E' (au4 M)
   have hd:(cA t D[a])[r]? =some d:=by
    have h9:((aQ t D).drop (a*wid t))[r]? =some d:=by rw[aG7];exact g2
    rwa [b0,List.getElem?_append_left (by rw[ja];exact N)]at h9
   obtain⟨u,Y,e9⟩:=(SE (c:=c) (h:=aj [(1000,aR.row [] e t D)]) (w:=sortWorldK (fH t) (wid t) w b 0 q D.toArray os) ht D[a]).get hd;rw[au4 (by rw[hk];exact N)]at Y
   injection Y with Y;rw[Y];exact e9
end
end
end Go.Proofs.YtejhifnjgoclpaaGreatDoor.Fx
namespace Go.Proofs
open Go.Shelf
def Tryz.al7:Go.Shelf.Ren:=⟨λ|6=>46|15=>119|14=>118|28=>214|29=>215|20=>206|21=>207|22=>208|23=>209|24=>210|25=>211|26=>212|27=>213|46=>309|47=>310|48=>311|49=>312|50=>313|57=>383|n=>n,λ|22=>139|24=>81|25=>156|3=>3|39=>260|0=>0|53=>102|55=>146|4=>4|46=>355|45=>354|50=>198|5=>5|9=>9|66=>453|70=>457|76=>507|77=>91|n=>n,λ|n=>n⟩
theorem Tryz.ar0:Go.Proofs.SlLaysF0.n6 at1 Tryz.al7:={
 mixed:=by kernel_rfl
 f6:=⟨Tryz.f46.name,by decide,Tryz.func46.trans (congrArg some (by kernel_rfl))⟩
 f14:=⟨Tryz.f118.name,by decide,Tryz.func118.trans (congrArg some (by kernel_rfl))⟩
 f15:=Tryz.func119.trans (congrArg some (by kernel_rfl))
 f20:=⟨Tryz.f206.name,by decide,Tryz.func206.trans (congrArg some (by kernel_rfl))⟩
 f21:=⟨Tryz.f207.name,by decide,Tryz.func207.trans (congrArg some (by kernel_rfl))⟩
 f22:=⟨Tryz.f208.name,by decide,Tryz.func208.trans (congrArg some (by kernel_rfl))⟩
 f23:=⟨Tryz.f209.name,by decide,Tryz.func209.trans (congrArg some (by kernel_rfl))⟩
 f24:=⟨Tryz.f210.name,by decide,Tryz.func210.trans (congrArg some (by kernel_rfl))⟩
 f25:=⟨Tryz.f211.name,by decide,Tryz.func211.trans (congrArg some (by kernel_rfl))⟩
 f26:=⟨Tryz.f212.name,by decide,Tryz.func212.trans (congrArg some (by kernel_rfl))⟩
 f27:=⟨Tryz.f213.name,by decide,Tryz.func213.trans (congrArg some (by kernel_rfl))⟩
 f28:=Tryz.func214.trans (congrArg some (by kernel_rfl))
 f29:=Tryz.func215.trans (congrArg some (by kernel_rfl))
 f46:=⟨Tryz.f309.name,by decide,Tryz.func309.trans (congrArg some (by kernel_rfl))⟩
 f47:=Tryz.func310.trans (congrArg some (by kernel_rfl))
 f48:=Tryz.func311.trans (congrArg some (by kernel_rfl))
 f49:=⟨Tryz.f312.name,by decide,Tryz.func312.trans (congrArg some (by kernel_rfl))⟩
 f50:=⟨Tryz.f313.name,by decide,Tryz.func313.trans (congrArg some (by kernel_rfl))⟩
 f57:=⟨Tryz.f383.name,by decide,Tryz.func383.trans (congrArg some (by kernel_rfl))⟩
 t0:=Tryz.underlying0
 a0:=Tryz.isAgg0
 z0:=Tryz.sizeOf0
 v0:=Tryz.zeroValue0
 t3:=Tryz.underlying3
 a3:=Tryz.isAgg3
 z3:=Tryz.sizeOf3
 v3:=Tryz.zeroValue3
 t4:=Tryz.underlying4
 a4:=Tryz.isAgg4
 z4:=Tryz.sizeOf4
 v4:=Tryz.zeroValue4
 t5:=Tryz.underlying5
 a5:=Tryz.isAgg5
 z5:=Tryz.sizeOf5
 v5:=Tryz.zeroValue5
 t9:=Tryz.underlying9
 a9:=Tryz.isAgg9
 z9:=Tryz.sizeOf9
 v9:=Tryz.zeroValue9
 t22:=Tryz.underlying139
 a22:=Tryz.isAgg139
 z22:=Tryz.sizeOf139
 v22:=Tryz.zeroValue139
 t25:=Tryz.underlying156
 a25:=Tryz.isAgg156
 z25:=Tryz.sizeOf156
 v25:=Tryz.zeroValue156
 t39:=Tryz.underlying260
 a39:=Tryz.isAgg260
 z39:=Tryz.sizeOf260
 v39:=Tryz.zeroValue260
 t45:=Tryz.underlying354
 a45:=Tryz.isAgg354
 z45:=Tryz.sizeOf354
 v45:=Tryz.zeroValue354
 t46:=Tryz.underlying355
 a46:=Tryz.isAgg355
 z46:=Tryz.sizeOf355
 v46:=Tryz.zeroValue355
 t50:=Tryz.underlying198
 a50:=Tryz.isAgg198
 z50:=Tryz.sizeOf198
 v50:=Tryz.zeroValue198
 t53:=Tryz.underlying102
 a53:=Tryz.isAgg102
 z53:=Tryz.sizeOf102
 v53:=Tryz.zeroValue102
 t55:=Tryz.underlying146
 a55:=Tryz.isAgg146
 z55:=Tryz.sizeOf146
 v55:=Tryz.zeroValue146
 t66:=Tryz.underlying453
 a66:=Tryz.isAgg453
 z66:=Tryz.sizeOf453
 v66:=Tryz.zeroValue453
 t70:=Tryz.underlying457
 a70:=Tryz.isAgg457
 z70:=Tryz.sizeOf457
 v70:=Tryz.zeroValue457
 t76:=Tryz.underlying507
 a76:=Tryz.isAgg507
 z76:=Tryz.sizeOf507
 v76:=Tryz.zeroValue507
 t77:=Tryz.underlying91
 a77:=Tryz.isAgg91
 z77:=Tryz.sizeOf91
 v77:=Tryz.zeroValue91}
end Go.Proofs
namespace Go.Proofs.YtejhifnjgoclpaaGreatDoor.Fx
open Go.RowKit
set_option maxRecDepth 1000000
noncomputable section
theorem z8(a:ByteArray)(w:World):Calls at1 187 #[.string a] w λe w'=>e=.returned (.bool false)/\w=w':=by
 go_enter Tryz.func187,Tryz.ntmps187
 go_wp2_with fail
 go_ret
 exact⟨by simp,rfl⟩
theorem SH(a b:List UInt8)(w:World):Calls at1 108 #[.string ⟨a.toArray⟩,.string ⟨b.toArray⟩] w λe w'=>e=.returned (.int .i64 (Lib.compareBytes a b))/\w=w':=by
 have hc:=Db a b;unfold cI at hc;by_cases h1:Op.bytesLess a b=true
 ·rw[if_pos h1]at hc;rw[hc]
  go_enter Tryz.func108,Tryz.ntmps108
  go_wp2_with fail
  refine(z8 _ w).mono ?_;rintro e w' ⟨rfl,rfl⟩
  go_wp2_with fail
  refine(z8 _ _).mono ?_;rintro e w' ⟨rfl,rfl⟩
  go_wp2_with fail
  go_ret
  exact⟨rfl,rfl⟩
 ·rw[if_neg h1]at hc;by_cases h2:a=b
  ·rw[if_pos h2]at hc;rw[hc];subst h2
   go_enter Tryz.func108,Tryz.ntmps108
   go_wp2_with fail
   refine(z8 _ w).mono ?_;rintro e w' ⟨rfl,rfl⟩
   go_wp2_with fail
   refine(z8 _ _).mono ?_;rintro e w' ⟨rfl,rfl⟩
   go_wp2_with fail
   go_ret
   exact⟨rfl,rfl⟩
  ·rw[if_neg h2]at hc;rw[hc]
   go_enter Tryz.func108,Tryz.ntmps108
   go_wp2_with fail
   refine(z8 _ w).mono ?_;rintro e w' ⟨rfl,rfl⟩
   go_wp2_with fail
   refine(z8 _ _).mono ?_;rintro e w' ⟨rfl,rfl⟩
   go_wp2_with fail
   ·go_ret
    exact⟨rfl,rfl⟩
   ·rename_i h;rw[Bool.not_eq_false']at h;exact absurd (by simpa using h) h2
def FZ(x y:Want):Int:=if Lib.compareBytes x.1 y.1=0 then Lib.compareBytes x.2 y.2 else Lib.compareBytes x.1 y.1
def FY(x:Want):List Value:=[.string ⟨x.1.toArray⟩,.string ⟨x.2.toArray⟩]
theorem ac8(w:World)(D F:Obj):∃q J,(w.alloc D).alloc F=Go.Sort.grow (w.drewN q) J:=⟨0,#[D]++ #[F],by rw[Go.Sort.alloc_eq_grow,Go.Sort.alloc_eq_grow,Go.Sort.grow_grow];rfl⟩
theorem aq4(a b c d:List UInt8)(r1 r2:Int)(h1:r1=Lib.compareBytes a c)(h2:r2=Lib.compareBytes b d)(w:World):Calls at1 47 #[.agg (FY (a,b)).toArray,.agg (FY (c,d)).toArray] w λe w'=>e=.returned (.int .i64 (FZ (a,b) (c,d)))/\∃q os',w'=Go.Sort.grow (w.drewN q) os':=by
 unfold FY FZ;simp only;rw[<-h1,<-h2];by_cases h0:r1=0
 ·rw[if_pos h0]
  go_enter Tryz.func47,Tryz.ntmps47
  go_wp2_with fail
  refine(SH _ _ _).mono ?_;rintro e w' ⟨rfl,rfl⟩;rw[<-h1,h0]
  go_wp2_with fail
  refine(SH _ _ _).mono ?_;rintro e w' ⟨rfl,rfl⟩
  go_wp2_with fail
  go_ret
  exact⟨by rw[h2];rfl,ac8 _ _ _⟩
 ·rw[if_neg h0]
  go_enter Tryz.func47,Tryz.ntmps47
  go_wp2_with fail
  refine(SH _ _ _).mono ?_;rintro e w' ⟨rfl,rfl⟩;rw[<-h1]
  go_wp2_with fail
  go_ret
  exact⟨by rw[h1];rfl,ac8 _ _ _⟩
theorem an0(x y:Want)(w:World):Calls at1 47 #[.agg (FY x).toArray,.agg (FY y).toArray] w λe w'=>e=.returned (.int .i64 (FZ x y))/\∃q D,w'=Go.Sort.grow (w.drewN q) D:=aq4 x.1 x.2 y.1 y.2 _ _ rfl rfl w
end
end Go.Proofs.YtejhifnjgoclpaaGreatDoor.Fx
namespace Go.Proofs
open Go.Shelf
def Tryz.ajM:Go.Shelf.Ren:=⟨λ|15=>131|n=>n,λ|22=>55|3=>3|4=>4|n=>n,λ|n=>n⟩
theorem Tryz.RI:Go.Proofs.Lays2.n15 at1 Tryz.ajM:={
 mixed:=by kernel_rfl
 f15:=Tryz.func131.trans (congrArg some (by kernel_rfl))
 t3:=Tryz.underlying3
 a3:=Tryz.isAgg3
 z3:=Tryz.sizeOf3
 v3:=Tryz.zeroValue3
 t4:=Tryz.underlying4
 a4:=Tryz.isAgg4
 z4:=Tryz.sizeOf4
 v4:=Tryz.zeroValue4
 t22:=Tryz.underlying55
 a22:=Tryz.isAgg55
 z22:=Tryz.sizeOf55
 v22:=Tryz.zeroValue55
 i3:=by kernel_rfl}
open Go.RowKit Go.Lib in
theorem Tryz.slices_Clone_int (b off n c:Nat) (D:List Int) (w:World) (J:n<=D.length) (F:n*8<=140737488355328) (hc:∀j,j<D.length->w.cell? ⟨b,off+j,none⟩=some (.int .i64 (D.getD j 0))):
 Calls at1 131 #[.slice (some ⟨b,off,none⟩) n c] w λe w'=>∃v',e=.returned v'/\w'.ownsRow w.heap.size 3 1 v' n ((D.take n).map (Value.int .i64))/\v'≠.slice none 0 0/\Below w.heap.size w w':=Any.slices_Clone_int Tryz.RI b off n c D w J F hc
open Go.RowKit Go.Lib in
theorem Tryz.slices_Clone_int_nil (n c:Nat) (w:World):
 Calls at1 131 #[.slice none n c] w λe w'=>e=.returned (.slice none 0 0)/\w'=w:=Any.slices_Clone_int_nil Tryz.RI n c w
def Tryz.ajL:Go.Shelf.Ren:=⟨λ|16=>365|n=>n,λ|24=>22|9=>9|4=>4|n=>n,λ|n=>n⟩
theorem Tryz.RH:Go.Proofs.Lays2.n16 at1 Tryz.ajL:={
 mixed:=by kernel_rfl
 f16:=Tryz.func365.trans (congrArg some (by kernel_rfl))
 t4:=Tryz.underlying4
 a4:=Tryz.isAgg4
 z4:=Tryz.sizeOf4
 v4:=Tryz.zeroValue4
 t9:=Tryz.underlying9
 a9:=Tryz.isAgg9
 z9:=Tryz.sizeOf9
 v9:=Tryz.zeroValue9
 t24:=Tryz.underlying22
 a24:=Tryz.isAgg22
 z24:=Tryz.sizeOf22
 v24:=Tryz.zeroValue22
 i9:=by kernel_rfl}
open Go.RowKit Go.Lib in
theorem Tryz.slices_Clone_string (b off n c:Nat) (D:List ByteArray) (w:World) (J:n<=D.length) (F:n*16<=140737488355328) (hc:∀j,j<D.length->w.cell? ⟨b,off+j,none⟩=some (.string (D.getD j ByteArray.empty))):
 Calls at1 365 #[.slice (some ⟨b,off,none⟩) n c] w λe w'=>∃v',e=.returned v'/\w'.ownsRow w.heap.size 9 1 v' n ((D.take n).map (Value.string))/\v'≠.slice none 0 0/\Below w.heap.size w w':=Any.slices_Clone_string Tryz.RH b off n c D w J F hc
open Go.RowKit Go.Lib in
theorem Tryz.slices_Clone_string_nil (n c:Nat) (w:World):
 Calls at1 365 #[.slice none n c] w λe w'=>e=.returned (.slice none 0 0)/\w'=w:=Any.slices_Clone_string_nil Tryz.RH n c w
open Go.RowKit Go.Lib in
theorem Tryz.slices_Clone_int_zero (a:Addr) (c:Nat) (w:World):
 Calls at1 131 #[.slice (some a) 0 c] w λe w'=>∃v',e=.returned v'/\w'.ownsRow w.heap.size 3 1 v' 0 []/\v'≠.slice none 0 0/\Below w.heap.size w w':=Any.slices_Clone_int_zero Tryz.RI a c w
open Go.RowKit Go.Lib in
theorem Tryz.slices_Clone_string_zero (a:Addr) (c:Nat) (w:World):
 Calls at1 365 #[.slice (some a) 0 c] w λe w'=>∃v',e=.returned v'/\w'.ownsRow w.heap.size 9 1 v' 0 []/\v'≠.slice none 0 0/\Below w.heap.size w w':=Any.slices_Clone_string_zero Tryz.RH a c w
def Tryz.ajK:Go.Shelf.Ren:=⟨λ|20=>135|n=>n,λ|22=>55|3=>3|4=>4|0=>0|n=>n,λ|n=>n⟩
theorem Tryz.Zu:Go.Proofs.Lays2.n20 at1 Tryz.ajK:={
 mixed:=by kernel_rfl
 f20:=Tryz.func135.trans (congrArg some (by kernel_rfl))
 t0:=Tryz.underlying0
 a0:=Tryz.isAgg0
 z0:=Tryz.sizeOf0
 v0:=Tryz.zeroValue0
 t3:=Tryz.underlying3
 a3:=Tryz.isAgg3
 z3:=Tryz.sizeOf3
 v3:=Tryz.zeroValue3
 t4:=Tryz.underlying4
 a4:=Tryz.isAgg4
 z4:=Tryz.sizeOf4
 v4:=Tryz.zeroValue4
 t22:=Tryz.underlying55
 a22:=Tryz.isAgg55
 z22:=Tryz.sizeOf55
 v22:=Tryz.zeroValue55
 i3:=by kernel_rfl}
open Go.RowKit Go.Lib Go.Sort in
theorem Tryz.slices_Compact_int (dZ off cap:Nat) (D:List Int) (w:World) (hH:Holds (Value.int .i64) w dZ off D.toArray) (F:D.length<=9223372036854775807) (qX:D.length<=cap):
 Calls at1 135 #[.slice (some ⟨dZ,off,none⟩) D.length cap] w λe w'=>e=.returned (.slice (some ⟨dZ,off,none⟩) (Lib.compact D).length cap)/\∃q,w'=putRow (Value.int .i64) (Sort.ahead w q) dZ off (Lib.compact D++av5 (D.length-(Lib.compact D).length) 0).toArray:=Any.slices_Compact_int Tryz.Zu dZ off cap D w hH F qX
open Go.RowKit Go.Lib Go.Sort in
theorem Tryz.slices_Compact_int_empty (a:Option Addr) (cap:Nat) (w:World):
 Calls at1 135 #[.slice a 0 cap] w λe w'=>e=.returned (.slice a 0 cap)/\w'=w:=Any.slices_Compact_int_empty Tryz.Zu a cap w
def Tryz.al8:Go.Shelf.Ren:=⟨λ|6=>132|15=>119|14=>224|28=>214|29=>215|20=>319|21=>320|22=>321|23=>322|24=>323|25=>324|26=>325|27=>326|46=>389|47=>310|48=>311|49=>390|50=>391|57=>426|n=>n,λ|22=>55|24=>3|25=>269|3=>3|39=>260|0=>0|53=>102|55=>146|4=>4|46=>355|45=>354|50=>198|5=>5|9=>9|66=>453|70=>457|76=>507|77=>91|n=>n,λ|n=>n⟩
theorem Tryz.TE:Go.Proofs.SlLaysF.n6 at1 Tryz.al8:={
 mixed:=by kernel_rfl
 f6:=⟨Tryz.f132.name,by decide,Tryz.func132.trans (congrArg some (by kernel_rfl))⟩
 f14:=⟨Tryz.f224.name,by decide,Tryz.func224.trans (congrArg some (by kernel_rfl))⟩
 f15:=Tryz.func119.trans (congrArg some (by kernel_rfl))
 f20:=⟨Tryz.f319.name,by decide,Tryz.func319.trans (congrArg some (by kernel_rfl))⟩
 f21:=⟨Tryz.f320.name,by decide,Tryz.func320.trans (congrArg some (by kernel_rfl))⟩
 f22:=⟨Tryz.f321.name,by decide,Tryz.func321.trans (congrArg some (by kernel_rfl))⟩
 f23:=⟨Tryz.f322.name,by decide,Tryz.func322.trans (congrArg some (by kernel_rfl))⟩
 f24:=⟨Tryz.f323.name,by decide,Tryz.func323.trans (congrArg some (by kernel_rfl))⟩
 f25:=⟨Tryz.f324.name,by decide,Tryz.func324.trans (congrArg some (by kernel_rfl))⟩
 f26:=⟨Tryz.f325.name,by decide,Tryz.func325.trans (congrArg some (by kernel_rfl))⟩
 f27:=⟨Tryz.f326.name,by decide,Tryz.func326.trans (congrArg some (by kernel_rfl))⟩
 f28:=Tryz.func214.trans (congrArg some (by kernel_rfl))
 f29:=Tryz.func215.trans (congrArg some (by kernel_rfl))
 f46:=⟨Tryz.f389.name,by decide,Tryz.func389.trans (congrArg some (by kernel_rfl))⟩
 f47:=Tryz.func310.trans (congrArg some (by kernel_rfl))
 f48:=Tryz.func311.trans (congrArg some (by kernel_rfl))
 f49:=⟨Tryz.f390.name,by decide,Tryz.func390.trans (congrArg some (by kernel_rfl))⟩
 f50:=⟨Tryz.f391.name,by decide,Tryz.func391.trans (congrArg some (by kernel_rfl))⟩
 f57:=⟨Tryz.f426.name,by decide,Tryz.func426.trans (congrArg some (by kernel_rfl))⟩
 t0:=Tryz.underlying0
 a0:=Tryz.isAgg0
 z0:=Tryz.sizeOf0
 v0:=Tryz.zeroValue0
 t3:=Tryz.underlying3
 a3:=Tryz.isAgg3
 z3:=Tryz.sizeOf3
 v3:=Tryz.zeroValue3
 t4:=Tryz.underlying4
 a4:=Tryz.isAgg4
 z4:=Tryz.sizeOf4
 v4:=Tryz.zeroValue4
 t5:=Tryz.underlying5
 a5:=Tryz.isAgg5
 z5:=Tryz.sizeOf5
 v5:=Tryz.zeroValue5
 t9:=Tryz.underlying9
 a9:=Tryz.isAgg9
 z9:=Tryz.sizeOf9
 v9:=Tryz.zeroValue9
 t22:=Tryz.underlying55
 a22:=Tryz.isAgg55
 z22:=Tryz.sizeOf55
 v22:=Tryz.zeroValue55
 a24:=Tryz.isAgg3
 z24:=Tryz.sizeOf3
 t25:=Tryz.underlying269
 a25:=Tryz.isAgg269
 z25:=Tryz.sizeOf269
 v25:=Tryz.zeroValue269
 t39:=Tryz.underlying260
 a39:=Tryz.isAgg260
 z39:=Tryz.sizeOf260
 v39:=Tryz.zeroValue260
 t45:=Tryz.underlying354
 a45:=Tryz.isAgg354
 z45:=Tryz.sizeOf354
 v45:=Tryz.zeroValue354
 t46:=Tryz.underlying355
 a46:=Tryz.isAgg355
 z46:=Tryz.sizeOf355
 v46:=Tryz.zeroValue355
 t50:=Tryz.underlying198
 a50:=Tryz.isAgg198
 z50:=Tryz.sizeOf198
 v50:=Tryz.zeroValue198
 t53:=Tryz.underlying102
 a53:=Tryz.isAgg102
 z53:=Tryz.sizeOf102
 v53:=Tryz.zeroValue102
 t55:=Tryz.underlying146
 a55:=Tryz.isAgg146
 z55:=Tryz.sizeOf146
 v55:=Tryz.zeroValue146
 t66:=Tryz.underlying453
 a66:=Tryz.isAgg453
 z66:=Tryz.sizeOf453
 v66:=Tryz.zeroValue453
 t70:=Tryz.underlying457
 a70:=Tryz.isAgg457
 z70:=Tryz.sizeOf457
 v70:=Tryz.zeroValue457
 t76:=Tryz.underlying507
 a76:=Tryz.isAgg507
 z76:=Tryz.sizeOf507
 v76:=Tryz.zeroValue507
 t77:=Tryz.underlying91
 a77:=Tryz.isAgg91
 z77:=Tryz.sizeOf91
 v77:=Tryz.zeroValue91}
end Go.Proofs
namespace Go.Proofs.YtejhifnjgoclpaaGreatDoor.Fx
open Go.RowKit
set_option maxRecDepth 1000000
noncomputable section
theorem Conc.TK{E:cP}{c:Cx}{h:Hp}{w w':World}(hC:Conc E c h w)(J:Below w.heap.size w w'){k:Nat}(hk:h k=none)(M:dw k=false){e:TypeId}{t:Ty}(L:0<wid t){l:List (den t)}{v:Value}{xs:List Value}(F:w'.ownsRow w.heap.size e (wid t) v l.length xs)(N:au (CR c h w) xs (aQ t l)):
  ∃c',Conc E c' (bK h k (some (.row [] e t l))) w'/\SR c' (bK h k (some (.row [] e t l))) w' v (.c (.ow k 0 .all)):=by
 obtain⟨c',g1,_,g2⟩:=hC.newRow hk M L (gv.qv J) (eB.of F) (λb D=>by
  rcases F.2 with⟨rfl,_⟩|⟨g,cap,cur,rfl,h1,_⟩
  ·cases D
  ·rw[uj D];exact h1) N
 exact⟨c',g1,g2⟩
theorem ao1{c:Cx}{h:Hp}{w:World}(l:List (List UInt8)):au (CR c h w) (l.map λx=>Value.string ⟨x.toArray⟩) (aQ .str l):=by
 induction l with
 |nil=>exact .nil
 |cons x l D=>exact .cons ⟨rfl,rfl⟩ D
theorem aoH(l:List (List UInt8))(O:l.length<1000000):fw at1 365 [.c (.v (.sl .str) l)] [] (.ret (.c (.ow 1 0 .all)) [(1,.row [] 9 .str l)]):=by
 intro c w vals hC N;obtain⟨v0,rfl,_,a,cap,rfl,F⟩:=tU N
 have fin:∀v' w',w'.ownsRow w.heap.size 9 1 v' l.length (l.map λx=>Value.string ⟨x.toArray⟩)->Below w.heap.size w w'->∃c',pW (cS w c (aj [])) (.returned v') c' w' (.ret (.c (.ow 1 0 .all)) [(1,.row [] 9 .str l)]):=λv' w' L J=>by
  obtain⟨c',g1,g2⟩:=hC.TK J (k:=1) rfl rfl (e:=9) (t:=.str) (by decide) (l:=l) L (ao1 l)
  have e:bK (aj []) 1 (some (aR.row [] 9 .str l))=aj [(1,.row [] 9 .str l)]:=(ij [] 1 _).symm;rw[e]at g1 g2;exact⟨c',v',rfl,g1,g2⟩
 by_cases h0:l=[]
 ·subst h0;cases a with
  |none=>refine(Tryz.slices_Clone_string_nil 0 cap w).mono ?_;rintro e w' ⟨rfl,rfl⟩;exact fin _ _ ⟨rfl,.inl ⟨rfl,rfl⟩⟩ (Below.refl _ _)
  |some ad=>refine(Tryz.slices_Clone_string_zero ad cap w).mono ?_;rintro e w' ⟨v',rfl,h1,_,h2⟩;exact fin _ _ h1 h2
 ·obtain⟨hle,_,b,off,rfl,M⟩:=F.resolve_left h0;refine(Tryz.slices_Clone_string b off l.length cap (l.map λx=>⟨x.toArray⟩) w (by simp) (by omega) (λj D=>?_)).mono ?_
  ·rw[au1]at D;have:=(M j l[j] (au4 D)).2;rw[show off+(j*wid .str+0)=off+j by simp [wid]]at this
   rw[this];simp [List.getD_eq_getElem?_getD,D]
  ·rintro e w' ⟨v',rfl,g1,_,g2⟩;refine fin _ _ ?_ g2;have:((l.map λx=>(⟨x.toArray⟩:ByteArray)).take l.length).map Value.string=l.map λx=>Value.string ⟨x.toArray⟩:=by rw[aB8 (by simp),aA1];rfl
   rw[<-this];exact g1
noncomputable def alG:cM at1:=mkB 365 ⟨[(0,.c (.v (.sl .str)))],[]⟩ [(false,⟨[(2,.c (.own 1))],[(1,.row 9 .str)]⟩)] (λr=>(r,())) (λx=>Fe x.1) (by kernel_rfl) (λx o h0=>by
 obtain⟨l,u⟩:=x;have h:Fe l=some o:=h0;unfold Fe at h;split at h
 ·rename_i D;obtain rfl:l=o:=Option.some.inj h;exact aoH l D
 ·cases h)
end
end Go.Proofs.YtejhifnjgoclpaaGreatDoor.Fx
namespace Go.Proofs
open Go.Shelf
def Tryz.E6:Go.Shelf.Ren:=⟨λ|166=>422|167=>421|169=>424|240=>443|276=>453|n=>n,λ|0=>0|3=>3|4=>4|5=>5|9=>9|20=>20|37=>472|70=>526|72=>528|75=>530|80=>232|127=>543|164=>552|n=>n,λ|n=>n⟩
theorem Tryz.bh:Go.Proofs.Lays.n240 at1 Tryz.E6:={
 mixed:=by kernel_rfl
 f240:=Tryz.func443.trans (congrArg some (by kernel_rfl))
 f276:=Tryz.func453.trans (congrArg some (by kernel_rfl))
 t0:=Tryz.underlying0
 a0:=Tryz.isAgg0
 z0:=Tryz.sizeOf0
 v0:=Tryz.zeroValue0
 t4:=Tryz.underlying4
 a4:=Tryz.isAgg4
 z4:=Tryz.sizeOf4
 v4:=Tryz.zeroValue4
 t9:=Tryz.underlying9
 a9:=Tryz.isAgg9
 z9:=Tryz.sizeOf9
 v9:=Tryz.zeroValue9
 t20:=Tryz.underlying20
 a20:=Tryz.isAgg20
 z20:=Tryz.sizeOf20
 v20:=Tryz.zeroValue20
 t70:=Tryz.underlying526
 a70:=Tryz.isAgg526
 z70:=Tryz.sizeOf526
 v70:=Tryz.zeroValue526
 t72:=Tryz.underlying528
 a72:=Tryz.isAgg528
 z72:=Tryz.sizeOf528
 v72:=Tryz.zeroValue528
 t164:=Tryz.underlying552
 a164:=Tryz.isAgg552
 z164:=Tryz.sizeOf552
 v164:=Tryz.zeroValue552
 }
theorem Tryz.mW:Go.Proofs.Lays.n167 at1 Tryz.E6:={
 mixed:=Tryz.bh.mixed
 f167:=Tryz.func421.trans (congrArg some (by kernel_rfl))
 f240:=Tryz.bh.f240
 f276:=Tryz.bh.f276
 t0:=Tryz.bh.t0
 a0:=Tryz.bh.a0
 z0:=Tryz.bh.z0
 v0:=Tryz.bh.v0
 t4:=Tryz.bh.t4
 a4:=Tryz.bh.a4
 z4:=Tryz.bh.z4
 v4:=Tryz.bh.v4
 t5:=Tryz.underlying5
 a5:=Tryz.isAgg5
 z5:=Tryz.sizeOf5
 v5:=Tryz.zeroValue5
 t9:=Tryz.bh.t9
 a9:=Tryz.bh.a9
 z9:=Tryz.bh.z9
 v9:=Tryz.bh.v9
 t20:=Tryz.bh.t20
 a20:=Tryz.bh.a20
 z20:=Tryz.bh.z20
 v20:=Tryz.bh.v20
 t37:=Tryz.underlying472
 a37:=Tryz.isAgg472
 z37:=Tryz.sizeOf472
 v37:=Tryz.zeroValue472
 t70:=Tryz.bh.t70
 a70:=Tryz.bh.a70
 z70:=Tryz.bh.z70
 v70:=Tryz.bh.v70
 t72:=Tryz.bh.t72
 a72:=Tryz.bh.a72
 z72:=Tryz.bh.z72
 v72:=Tryz.bh.v72
 t75:=Tryz.underlying530
 a75:=Tryz.isAgg530
 z75:=Tryz.sizeOf530
 v75:=Tryz.zeroValue530
 t164:=Tryz.bh.t164
 a164:=Tryz.bh.a164
 z164:=Tryz.bh.z164
 v164:=Tryz.bh.v164
 }
theorem Tryz.Fu:Go.Proofs.Lays.n166 at1 Tryz.E6:={
 mixed:=Tryz.bh.mixed
 f166:=Tryz.func422.trans (congrArg some (by kernel_rfl))
 f240:=Tryz.bh.f240
 f276:=Tryz.bh.f276
 t0:=Tryz.bh.t0
 a0:=Tryz.bh.a0
 z0:=Tryz.bh.z0
 v0:=Tryz.bh.v0
 t3:=Tryz.underlying3
 a3:=Tryz.isAgg3
 z3:=Tryz.sizeOf3
 v3:=Tryz.zeroValue3
 t4:=Tryz.bh.t4
 a4:=Tryz.bh.a4
 z4:=Tryz.bh.z4
 v4:=Tryz.bh.v4
 t9:=Tryz.bh.t9
 a9:=Tryz.bh.a9
 z9:=Tryz.bh.z9
 v9:=Tryz.bh.v9
 t20:=Tryz.bh.t20
 a20:=Tryz.bh.a20
 z20:=Tryz.bh.z20
 v20:=Tryz.bh.v20
 t37:=Tryz.mW.t37
 a37:=Tryz.mW.a37
 z37:=Tryz.mW.z37
 v37:=Tryz.mW.v37
 t70:=Tryz.bh.t70
 a70:=Tryz.bh.a70
 z70:=Tryz.bh.z70
 v70:=Tryz.bh.v70
 t72:=Tryz.bh.t72
 a72:=Tryz.bh.a72
 z72:=Tryz.bh.z72
 v72:=Tryz.bh.v72
 t75:=Tryz.mW.t75
 a75:=Tryz.mW.a75
 z75:=Tryz.mW.z75
 v75:=Tryz.mW.v75
 t164:=Tryz.bh.t164
 a164:=Tryz.bh.a164
 z164:=Tryz.bh.z164
 v164:=Tryz.bh.v164
 }
theorem Tryz.apN:Go.Proofs.Lays.n169 at1 Tryz.E6:={
 mixed:=Tryz.bh.mixed
 f169:=Tryz.func424.trans (congrArg some (by kernel_rfl))
 t0:=Tryz.bh.t0
 a0:=Tryz.bh.a0
 z0:=Tryz.bh.z0
 v0:=Tryz.bh.v0
 t3:=Tryz.Fu.t3
 a3:=Tryz.Fu.a3
 z3:=Tryz.Fu.z3
 v3:=Tryz.Fu.v3
 t9:=Tryz.bh.t9
 a9:=Tryz.bh.a9
 z9:=Tryz.bh.z9
 v9:=Tryz.bh.v9
 t37:=Tryz.mW.t37
 a37:=Tryz.mW.a37
 z37:=Tryz.mW.z37
 v37:=Tryz.mW.v37
 t70:=Tryz.bh.t70
 a70:=Tryz.bh.a70
 z70:=Tryz.bh.z70
 v70:=Tryz.bh.v70
 t72:=Tryz.bh.t72
 a72:=Tryz.bh.a72
 z72:=Tryz.bh.z72
 v72:=Tryz.bh.v72
 t127:=Tryz.underlying543
 a127:=Tryz.isAgg543
 z127:=Tryz.sizeOf543
 v127:=Tryz.zeroValue543
 }
theorem Tryz.Qx:Builder.Extra at1 Tryz.E6 where
 sizeBuilder:=by kernel_rfl
 liesBuilder:=by kernel_rfl
 t5:=Tryz.underlying5
 a5:=Tryz.isAgg5
 z5:=Tryz.sizeOf5
 v5:=Tryz.zeroValue5
 infoByte:=by kernel_rfl
 cellsByte:=by kernel_rfl
 sizeByte:=by kernel_rfl
 neB5:=by decide
open Go.RowKit
end Go.Proofs
namespace Go.Proofs
open Go.Shelf
def Tryz.aku:Go.Shelf.Ren:=⟨λ|171=>444|243=>454|246=>457|283=>460|284=>461|285=>462|286=>463|129=>215|317=>464|318=>465|319=>466|320=>467|337=>468|338=>469|n=>n,λ|3=>3|9=>9|2=>2|4=>4|171=>557|0=>0|53=>146|37=>472|5=>5|173=>559|212=>562|51=>102|20=>20|213=>563|46=>260|232=>564|233=>565|n=>n,λ|17=>4|18=>5|19=>6|n=>n⟩
theorem Tryz.apM:Go.Proofs.LaysM.n171 at1 Tryz.aku:={
 mixed:=by kernel_rfl
 f129:=Tryz.func215.trans (congrArg some (by kernel_rfl))
 f171:=Tryz.func444.trans (congrArg some (by kernel_rfl))
 f243:=Tryz.func454.trans (congrArg some (by kernel_rfl))
 f246:=Tryz.func457.trans (congrArg some (by kernel_rfl))
 f283:=Tryz.func460.trans (congrArg some (by kernel_rfl))
 f284:=Tryz.func461.trans (congrArg some (by kernel_rfl))
 f285:=Tryz.func462.trans (congrArg some (by kernel_rfl))
 f286:=Tryz.func463.trans (congrArg some (by kernel_rfl))
 f317:=Tryz.func464.trans (congrArg some (by kernel_rfl))
 f318:=Tryz.func465.trans (congrArg some (by kernel_rfl))
 f319:=Tryz.func466.trans (congrArg some (by kernel_rfl))
 f320:=Tryz.func467.trans (congrArg some (by kernel_rfl))
 f337:=Tryz.func468.trans (congrArg some (by kernel_rfl))
 f338:=Tryz.func469.trans (congrArg some (by kernel_rfl))
 t0:=Tryz.underlying0
 a0:=Tryz.isAgg0
 z0:=Tryz.sizeOf0
 v0:=Tryz.zeroValue0
 t2:=Tryz.underlying2
 a2:=Tryz.isAgg2
 z2:=Tryz.sizeOf2
 v2:=Tryz.zeroValue2
 t3:=Tryz.underlying3
 a3:=Tryz.isAgg3
 z3:=Tryz.sizeOf3
 v3:=Tryz.zeroValue3
 t4:=Tryz.underlying4
 a4:=Tryz.isAgg4
 z4:=Tryz.sizeOf4
 v4:=Tryz.zeroValue4
 t5:=Tryz.underlying5
 a5:=Tryz.isAgg5
 z5:=Tryz.sizeOf5
 v5:=Tryz.zeroValue5
 t9:=Tryz.underlying9
 a9:=Tryz.isAgg9
 z9:=Tryz.sizeOf9
 v9:=Tryz.zeroValue9
 t20:=Tryz.underlying20
 a20:=Tryz.isAgg20
 z20:=Tryz.sizeOf20
 v20:=Tryz.zeroValue20
 t37:=Tryz.underlying472
 a37:=Tryz.isAgg472
 z37:=Tryz.sizeOf472
 v37:=Tryz.zeroValue472
 t46:=Tryz.underlying260
 a46:=Tryz.isAgg260
 z46:=Tryz.sizeOf260
 v46:=Tryz.zeroValue260
 t51:=Tryz.underlying102
 a51:=Tryz.isAgg102
 z51:=Tryz.sizeOf102
 v51:=Tryz.zeroValue102
 t53:=Tryz.underlying146
 a53:=Tryz.isAgg146
 z53:=Tryz.sizeOf146
 v53:=Tryz.zeroValue146
 t171:=Tryz.underlying557
 a171:=Tryz.isAgg557
 z171:=Tryz.sizeOf557
 v171:=Tryz.zeroValue557
 t173:=Tryz.underlying559
 a173:=Tryz.isAgg559
 z173:=Tryz.sizeOf559
 v173:=Tryz.zeroValue559
 t212:=Tryz.underlying562
 a212:=Tryz.isAgg562
 z212:=Tryz.sizeOf562
 v212:=Tryz.zeroValue562
 t213:=Tryz.underlying563
 a213:=Tryz.isAgg563
 z213:=Tryz.sizeOf563
 t232:=Tryz.underlying564
 a232:=Tryz.isAgg564
 z232:=Tryz.sizeOf564
 v232:=Tryz.zeroValue564
 t233:=Tryz.underlying565
 a233:=Tryz.isAgg565
 z233:=Tryz.sizeOf565
 v233:=Tryz.zeroValue565
 g17:=by kernel_rfl
 g18:=by kernel_rfl
 g19:=by kernel_rfl
 i0:=by kernel_rfl
 i2:=by kernel_rfl
 i3:=by kernel_rfl
 i4:=by kernel_rfl
 i5:=by kernel_rfl
 i9:=by kernel_rfl
 i20:=by kernel_rfl
 i37:=by kernel_rfl
 i46:=by kernel_rfl
 i51:=by kernel_rfl
 i53:=by kernel_rfl
 i171:=by kernel_rfl
 i173:=by kernel_rfl
 i212:=by kernel_rfl
 i232:=by kernel_rfl
 i233:=by kernel_rfl
 m17:=by kernel_rfl
 m18:=by kernel_rfl
 m19:=by kernel_rfl}
open Go.RowKit Go.Sort Go.Lib in
theorem Tryz.strconv_Itoa (n:Int) (h0: -9223372036854775808<=n) (h1:n<=9223372036854775807) (w:World) (D:Lib.TabIs at1 w "internal/strconv.uint64pow10" .u64 Lib.pow10Tab):
 Calls at1 444 #[.int .i64 n] w λe w'=>e=.returned (.string ⟨(Lib.itoa n).toArray⟩)/\∃k os,w'=grow (w.drewN k) os:=Any.strconv_Itoa Tryz.apM n h0 h1 w D
end Go.Proofs
namespace Go.Proofs.YtejhifnjgoclpaaGreatDoor.Fx
open Go.RowKit
set_option maxRecDepth 1000000
noncomputable section
section
open Go.Sort
def arj(l:List Int):List Value:=l.map (Value.int .i64)
theorem zS(x:Int)(w:World):Calls at1 222 #[.int .i64 x] w λe w'=>e=.returned (.bool false)/\w=w':=by
 have hxx:(x !=x)=false:=by simp
 go_enter Tryz.func222,Tryz.ntmps222
 go_wp2_with fail
 go_ret
 exact⟨rfl,rfl⟩
def qZ(a b:Int):Int:=if a<b then-1 else if b<a then 1 else 0
theorem Eb(a b:Int)(w:World)(v:Int)(hv:Hid (qZ a b=v)):Calls at1 129 #[.int .i64 a,.int .i64 b] w λe w'=>e=.returned (.int .i64 v)/\w=w':=by
 by_cases h1:a<b
 ·have d1:decide (a<b)=true:=decide_eq_true h1;obtain rfl: -1=v:=by rw[<-hv.out];unfold qZ;rw[if_pos h1]
  go_enter Tryz.func129,Tryz.ntmps129
  go_wp2_with fail
  refine(zS a _).mono ?_;rintro e w1 ⟨rfl,rfl⟩
  go_wp2_with fail
  refine(zS b _).mono ?_;rintro e w1 ⟨rfl,rfl⟩
  go_wp2_with fail
  go_ret
  exact⟨rfl,rfl⟩
 ·have d1:decide (a<b)=false:=decide_eq_false h1;by_cases h2:b<a
  ·have d2:decide (b<a)=true:=decide_eq_true h2;obtain rfl:1=v:=by rw[<-hv.out];unfold qZ;rw[if_neg h1,if_pos h2]
   go_enter Tryz.func129,Tryz.ntmps129
   go_wp2_with fail
   refine(zS a _).mono ?_;rintro e w1 ⟨rfl,rfl⟩
   go_wp2_with fail
   refine(zS b _).mono ?_;rintro e w1 ⟨rfl,rfl⟩
   go_wp2_with fail
   go_ret
   exact⟨rfl,rfl⟩
  ·have d2:decide (b<a)=false:=decide_eq_false h2;obtain rfl:0=v:=by rw[<-hv.out];unfold qZ;rw[if_neg h1,if_neg h2]
   go_enter Tryz.func129,Tryz.ntmps129
   go_wp2_with fail
   refine(zS a _).mono ?_;rintro e w1 ⟨rfl,rfl⟩
   go_wp2_with fail
   refine(zS b _).mono ?_;rintro e w1 ⟨rfl,rfl⟩
   go_wp2_with fail
   go_ret
   exact⟨rfl,rfl⟩
def gF(x:Int):Int:=max x (IntKind.i64.wrap (-x))
theorem Lu(x:Int)(w:World):Calls at1 136 #[.int .i64 x] w λe w'=>e=.returned (.int .i64 (gF x))/\w=w':=by
 obtain⟨y,hy⟩:∃y,IntKind.i64.wrap (-x)=y:=⟨_,rfl⟩;have hv:Hid (max x y=gF x):=au3 (by unfold gF;rw[hy])
 go_enter Tryz.func136,Tryz.ntmps136
 go_wp2_with fail
 go_ret
 exact⟨mX hv.out,rfl⟩
def lT(a b:Int):Int:=if qZ (gF a) (gF b)=0 then qZ a b else qZ (gF a) (gF b)
theorem apv(a b:Int)(w:World):Calls at1 133 #[.int .i64 a,.int .i64 b] w λe w'=>e=.returned (.int .i64 (lT a b))/\w=w':=by
 obtain⟨va,hva⟩:∃y,gF a=y:=⟨_,rfl⟩;obtain⟨vb,hvb⟩:∃y,gF b=y:=⟨_,rfl⟩;have HA:=au3 hva;have HB:=au3 hvb;obtain⟨c,hc⟩:∃y,qZ va vb=y:=⟨_,rfl⟩;obtain⟨d,hd⟩:∃y,qZ a b=y:=⟨_,rfl⟩;have HC:=au3 hc;have HD:=au3 hd;by_cases h0:c=0
 ·have hv:Hid (d=lT a b):=au3 (by unfold lT;rw[hva,hvb,hc,if_pos h0,hd])
  subst h0;clear hva hvb hc hd
  go_enter Tryz.func133,Tryz.ntmps133
  go_wp2_with fail
  refine(Lu a _).mono ?_;rintro e w1 ⟨rfl,rfl⟩;rw[HA.out]
  go_wp2_with fail
  refine(Lu b _).mono ?_;rintro e w1 ⟨rfl,rfl⟩;rw[HB.out]
  go_wp2_with fail
  refine(Eb va vb _ 0 HC).mono ?_;rintro e w1 ⟨rfl,rfl⟩
  go_wp2_with fail
  refine(Eb a b _ d HD).mono ?_;rintro e w1 ⟨rfl,rfl⟩
  go_wp2_with fail
  go_ret
  exact⟨mX hv.out,rfl⟩
 ·have hv:Hid (c=lT a b):=au3 (by unfold lT;rw[hva,hvb,hc,if_neg h0])
  have hne:(c !=0)=true:=by simp [h0]
  clear hva hvb hc hd
  go_enter Tryz.func133,Tryz.ntmps133
  go_wp2_with fail
  refine(Lu a _).mono ?_;rintro e w1 ⟨rfl,rfl⟩;rw[HA.out]
  go_wp2_with fail
  refine(Lu b _).mono ?_;rintro e w1 ⟨rfl,rfl⟩;rw[HB.out]
  go_wp2_with fail
  refine(Eb va vb _ c HC).mono ?_;rintro e w1 ⟨rfl,rfl⟩
  go_wp2_with fail
  go_ret
  exact⟨mX hv.out,rfl⟩
theorem uh(a b:Int):ltOf lT a b=decide (gF a<gF b\/(gF a=gF b/\a<b)):=by
 unfold ltOf lT qZ;congr 1;apply propext
 repeat' split
 all_goals omega
theorem aqP:Go.Sort.SWO (ltOf lT) where
 irrefl:=λx=>by rw[uh];exact decide_eq_false (by omega)
 trans:=λx y z h1 h2=>by rw[uh,decide_eq_true_eq]at h1 h2⊢;omega
 ntrans:=λx y z h1 h2=>by rw[uh,decide_eq_false_iff_not]at h1 h2⊢;omega
theorem aqK(x y:Int)(h1:ltOf lT x y=false)(h2:ltOf lT y x=false):x=y:=by rw[uh,decide_eq_false_iff_not]at h1 h2;omega
def pL(a b:Int):Prop:=gF a<gF b\/(gF a=gF b/\a<b)
theorem am4{x y:Int}(h1:¬pL x y)(h2:¬pL y x):x=y:=by unfold pL at*;omega
theorem aiQ(d:Array Int)(M:∀i j,i<j->j<d.size->¬pL d[j]! d[i]!):∀m,m<=d.size->
  (Go.Lib.compactUpTo d m).Pairwise pL/\(∀x,x∈Go.Lib.compactUpTo d m<->∃i,i<m/\d[i]! =x):=by
 intro m
 induction m with
 |zero=>intro _;exact⟨by simp [Go.Lib.compactUpTo],λx=>by simp [Go.Lib.compactUpTo]⟩
 |succ m Z=>
  intro hm;obtain⟨h1,h2⟩:=Z (by omega)
  rw[Go.Lib.compactUpTo_succ];by_cases hk:Go.Lib.keeps d m=true
  ·rw[if_pos hk];refine⟨?_,λx=>?_⟩
   ·rw[List.pairwise_append];refine⟨h1,List.pairwise_singleton _ _,λa U b L=>?_⟩;rw[aw0]at L;subst L;obtain⟨i,F,rfl⟩:=(h2 a).1 U;have J:m=0\/d[m]! ≠d[m-1]! :=by simpa[Go.Lib.keeps]using hk
    have J:d[m]! ≠d[m-1]! :=J.resolve_left (by omega)
    have n1:=M (m-1) m (by omega) (by omega)
    have O:pL d[m-1]! d[m]! :=Classical.byContradiction λY=>J (am4 n1 Y);by_cases D:i=m-1
    ·rw[D];exact O
    ·have n2:=M i (m-1) (by omega) (by omega)
     unfold pL at*;omega
   ·rw[List.mem_append,h2,aw0];constructor
    ·rintro(⟨i,F,e⟩|rfl)
     ·exact⟨i,by omega,e⟩
     ·exact⟨m,by omega,rfl⟩
    ·rintro⟨i,F,e⟩;by_cases D:i=m
     ·subst D;exact .inr e.symm
     ·exact .inl ⟨i,by omega,e⟩
  ·have N:Go.Lib.keeps d m=false:=by simpa using hk
   rw[N,if_neg (by simp),List.append_nil]
   refine⟨h1,λx=>?_⟩;rw[h2];constructor
   ·rintro⟨i,F,e⟩;exact⟨i,by omega,e⟩
   ·rintro⟨i,F,e⟩;by_cases D:i=m
    ·subst D;have:¬(i=0\/d[i]! ≠d[i-1]!):=by simpa[Go.Lib.keeps]using N
     rw[not_or,Classical.not_not]at this;exact⟨i-1,by omega,by rw[<-this.2];exact e⟩
    ·exact⟨i,by omega,e⟩
def lG(c:List Int):List Int:=c.mergeSort λx y=> !(ltOf lT) y x
theorem Qz(c:List Int):(lG c).length=c.length:=List.length_mergeSort _
theorem anz(c:List Int):(lG c).Pairwise λx y=>¬pL y x:=by
 have:=List.pairwise_mergeSort (le:=λx y=> !(ltOf lT) y x)
  (λa b c h1 h2=>by simp only[ay6]at h1 h2⊢;rw[uh,decide_eq_false_iff_not]at h1 h2⊢;omega)
  (λa b=>by
   rw[uh,uh];by_cases h:gF b<gF a\/(gF b=gF a/\b<a)
   ·rw[decide_eq_true h,decide_eq_false (by omega)];rfl
   ·rw[decide_eq_false h];rfl) c
 refine this.imp (λ{x y} h=>?_);simp only[ay6,uh,decide_eq_false_iff_not]at h;exact h
def ir(c:List Int):List Int:=Go.Lib.compact (lG c)
theorem amx(c:List Int):(ir c).Pairwise pL/\(∀x,x∈ir c<->x∈c):=by
 have J:∀i j,i<j->j<(lG c).toArray.size->¬pL (lG c).toArray[j]! (lG c).toArray[i]! :=by
  intro i j L F;have M:j<(lG c).length:=by simpa using F
  have:=(List.pairwise_iff_getElem.1 (anz c)) i j (by omega) M L
  rw[getElem!_pos _ j F,getElem!_pos _ i (by omega)]
  simpa using this
 obtain⟨h1,h2⟩:=aiQ (lG c).toArray J (lG c).length (by simp)
 refine⟨h1,λx=>?_⟩;unfold ir Go.Lib.compact;rw[h2,<-(show x∈lG c<->x∈c from List.mem_mergeSort),List.mem_iff_getElem]
 constructor
 ·rintro⟨i,D,e⟩;refine⟨i,D,?_⟩;rw[getElem!_pos _ i (by simpa using D)]at e
  simpa using e
 ·rintro⟨i,D,e⟩;refine⟨i,D,?_⟩;rw[getElem!_pos _ i (by simpa using D)]
  simpa using e
structure lR(w:World)(base g cap:Nat)(l:List Int):Prop where
 own:w.ownsRow base 3 1 (.slice (some ⟨g,0,none⟩) l.length cap) l.length (arj l)
 bg:base<=g
 lt:g<w.heap.size
 qX:l.length<=cap
 mx:cap<=maxLen
 holds:Go.Sort.Holds (Value.int .i64) w g 0 l.toArray
theorem Ma{w:World}{base n:Nat}{v:Value}{l:List Int}(h:w.ownsRow base 3 1 v n (l.map (Value.int .i64)))(M:v≠.slice none 0 0):∃g cap,v=.slice (some ⟨g,0,none⟩) l.length cap/\lR w base g cap l:=by obtain⟨g,cap,rfl,h1,h2,D,F,J,L⟩:=Go.Lib.holds_of_ownsRow h M;subst J;exact⟨g,cap,rfl,h,h1,h2,D,F,L⟩
theorem lR.put{w:World}{base g cap:Nat}{l:List Int}(h:lR w base g cap l)(q k:Nat)(ys:List Int)(J:ys.length=l.length)(hk:k<=l.length):lR (Go.Sort.putRow (Value.int .i64) (Go.Sort.ahead w q) g 0 ys.toArray) base g cap (ys.take k):=by
 have F:=Go.Lib.ownsRow_putRow (q:=q) h.own J hk;obtain⟨M,L,D,hO⟩:=Ma (l:=ys.take k) F (by simp)
 simp only[Value.slice.injEq,Option.some.injEq,Addr.mk.injEq]at D;obtain⟨⟨rfl,_⟩,_,rfl⟩:=D;exact hO
theorem lR.grown{w w':World}{base g cap:Nat}{l:List Int}(h:lR w base g cap l)(F:Below w.heap.size w w'):lR w' base g cap l:=by
 obtain⟨L,J,D,hO⟩:=Ma (ajE h.own F) (by simp)
 simp only[Value.slice.injEq,Option.some.injEq,Addr.mk.injEq]at D;obtain⟨⟨rfl,_⟩,_,rfl⟩:=D;exact hO
theorem RV(w:World)(os:Array Obj):Below w.heap.size w (Go.Sort.grow w os):=
 ⟨rfl,rfl,rfl,by simp [Go.Sort.grow],λk hk=>by simp only[Go.Sort.grow];rw[Array.getElem?_append_left hk]⟩
theorem aqa(args:Array Value)(w:World):(callFunc 133 args).run at1 w=.ok (.enter 133 args) w:=
 Go.MuLone.run_callFunc_enter Tryz.func133 (by kernel_rfl) rfl args w
theorem ao3(base g cap:Nat)(c:List Int)(w:World)(h:lR w base g cap c)(hlen:c.length<=1000000)(D:World)(F:Below base D w):
  Calls at1 132 #[.slice (some ⟨g,0,none⟩) c.length cap,.func (.func 133) #[] #[]] w λe w'=>e=.returned (.tuple #[])/\lR w' base g cap (lG c)/\Below base D w':=by
 have J:=h.mx;have M:=h.qX;unfold maxLen at J;refine(Any.slices_SortFunc_total Tryz.TE (Value.int .i64) (λ_=>rfl) lT aqP 133 #[] g 0 cap c.toArray w aqa ?_ h.holds h.lt (by simp;omega) aqK).mono ?_
 ·intro m os L _ x y;refine(apv x y _).mono ?_;rintro e w' ⟨rfl,rfl⟩;exact⟨rfl,0,#[],by rw[World.drewN_zero,Go.Sort.grow_empty]⟩
 ·rintro e w' ⟨rfl,n,os,rfl⟩;refine⟨rfl,?_,?_⟩
  ·have h1:=h.put n c.length (lG c) (Qz c) (at9 _);rw[<-Qz c,ax6]at h1;have e:(c.toArray.toList.mergeSort λx y=> !(ltOf lT) y x)=lG c:=rfl;rw[e];exact h1.grown (RV _ os)
  ·have h1:=Go.Lib.below_putRow (enc:=Value.int .i64) (q:=n) (d:=(c.toArray.toList.mergeSort λx y=> !(ltOf lT) y x).toArray) F h.bg;refine h1.trans ((RV _ os).mono ?_);rw[Go.Sort.size_putRow];exact aw8 h.bg (Nat.le_of_lt h.lt)
theorem alD(base g cap:Nat)(c:List Int)(w:World)(h:lR w base g cap c)(D:World)(F:Below base D w):
  Calls at1 135 #[.slice (some ⟨g,0,none⟩) c.length cap] w λe w'=>e=.returned (.slice (some ⟨g,0,none⟩) (Go.Lib.compact c).length cap)/\lR w' base g cap (Go.Lib.compact c)/\Below base D w':=by
 have L:=h.mx;have J:=h.qX;unfold maxLen at L;have hle:=Go.Lib.compact_length_le c;refine(Tryz.slices_Compact_int g 0 cap c w h.holds (by omega) J).mono ?_
 rintro e w' ⟨rfl,q,rfl⟩;refine⟨rfl,?_,Go.Lib.below_putRow F h.bg⟩;have:=h.put q (Go.Lib.compact c).length (Go.Lib.compact c++av5 (c.length-(Go.Lib.compact c).length) 0) (by simp;omega) hle
 rwa [aB2]at this
theorem aqp(g n cap:Nat)(w:World)(hn:n<=cap)(hm:cap<=maxLen):
  Calls at1 134 #[.slice (some ⟨g,0,none⟩) n cap] w λe w'=>e=.returned (.slice (some ⟨g,0,none⟩) n n)/\w=w':=by
 unfold maxLen at hm
 go_enter Tryz.func134,Tryz.ntmps134
 go_wp2_with fail
 go_ret
 exact⟨rfl,rfl⟩
theorem aba(w:World):
  Calls at1 134 #[.slice none 0 0] w λe w'=>e=.returned (.slice none 0 0)/\w=w':=by
 go_enter Tryz.func134,Tryz.ntmps134
 go_wp2_with fail
 go_ret
 exact⟨rfl,rfl⟩
end
theorem arZ {w:World} (h:TabOk w.heap[tabB]?):Lib.TabIs at1 w "internal/strconv.uint64pow10" .u64 Lib.pow10Tab:=by
 obtain⟨e,F,h⟩:=h;have D:at1.globalNamed "internal/strconv.uint64pow10" =some tabB:=by kernel_rfl
 unfold Lib.TabIs World.var?;rw[D,Option.bind_some,h]
theorem apT(n:Nat)(h1:n<=9223372036854775807)(w:World)(D:TabOk w.heap[tabB]?):
  Calls at1 444 #[.int .i64 (n:Int)] w λe w'=>e=.returned (.string ⟨(Lib.decDigits n).toArray⟩)/\Below w.heap.size w w':=by
 refine(Tryz.strconv_Itoa (n:Int) (by omega) (by omega) w (arZ D)).mono ?_
 rintro e w' ⟨rfl,k,os,rfl⟩;refine⟨?_,(below_drewN (Below.refl _ _) k).trans (show Below w.heap.size _ _ from RV (w.drewN k) os)⟩
 unfold Lib.itoa;rw[if_neg (by omega),av0]
noncomputable def aiW:cM at1:=mkB 444 ⟨[(0,.c (.v (.int .i64)))],[]⟩ [(false,⟨[(2,.c (.v .str))],[]⟩)] (λr=>(r,())) (λx=>strconv_Itoa x.1) (by kernel_rfl) (λx o h0=>by
 obtain⟨n,u⟩:=x;have h:strconv_Itoa n=some o:=h0;clear h0;unfold strconv_Itoa at h;split at h
 ·rename_i D;injection h with h;obtain⟨m,rfl⟩:∃m:Nat,n=(m:Int):=⟨aB1 n,(aA7 D.1).symm⟩;have F:o=Lib.decDigits m:=by rw[<-h,av0,aa4]
  subst F;exact abR [.int .i64 (m:Int)] (.string ⟨(Lib.decDigits m).toArray⟩) rfl rfl (λw J=>apT m (by omega) w J)
 ·cases h)
end
end Go.Proofs.YtejhifnjgoclpaaGreatDoor.Fx
namespace Go.Proofs.YtejhifnjgoclpaaGreatDoor
open Go.RowKit
def wY(c l k:Int):Value:=.iface 295 (.agg #[.int .i64 c,.int .i64 l,.int .i64 k])
theorem alI(v:Value)(w:World):(Instr.typeAssert (.iface 295 v) 20 295 true).run at1 w=.ok (.tuple #[v,.bool true]) w:=by kernel_rfl
theorem alS{w:World}{b:Nat}{vs:List Value}{T:TypeId}(h:w.heap[b]? =some (.cells vs.toArray T (0,0))):kQ w b vs:=by
 refine⟨(Array.getElem?_eq_some_iff.1 h).1,λi D=>?_,λi=>?_⟩
 ·simp [World.cell?,h]
 ·simp [World.frozen?,h]
def AT(w:World)(H:Nat)(c l k:Int)(o:Obj):World:=(((w.setCell ⟨H,0,none⟩ (.int .i64 c)).setCell ⟨H,1,none⟩ (.int .i64 l)).setCell ⟨H,2,none⟩ (.int .i64 k)).alloc o
set_option maxRecDepth 100000 in
theorem aoA (H:Nat) (c l k:Int) (older:List PanicEntry) (w:World) (T:TypeId) (a b d:Value) (hh:w.heap[H]? =some (.cells #[a,b,d] T (0,0))):
  CallsD at1 150 #[.pointer (some ⟨H,0,none⟩)] (.panicking ({v:=wY c l k,recovered:=false}::older)) w λe u' w'=>e=.returned (.tuple #[])/\u'=.panicking ({v:=wY c l k,recovered:=true}::older)/\∃o,w'=AT w H c l k o:=by
 have hv:kQ w H [a,b,d]:=alS hh;clear hh;have c0:=hv.get 0 rfl;have c1:=hv.get 1 rfl;have c2:=hv.get 2 rfl;have z:=hv.free;have hl:=hv.lt;refine callsD_of_wpS Tryz.func150 rfl λc₀ cs hu=>?_;apply wpS_seq;apply wpS_region;simp [wpOpsS,go_sem,recoverD,hu,Tryz.ntmps150,Exit.thenS];have hT: #[Value.pointer (some ⟨H,0,none⟩)]++(aF7 11 undef).setIfInBounds 3 (wY c l k)= #[.pointer (some ⟨H,0,none⟩),undef,undef,undef,wY c l k,undef,undef,undef,undef,undef,undef,undef]:=by rfl
 rw[hT];clear hT;refine wpS_of_wp ?_;unfold wY;clear hu;have hta:=alI (.agg #[.int .i64 c,.int .i64 l,.int .i64 k]);have hn1:¬H=w.heap.size:=by omega
 have HE:Hid (∃o,(((w.setCell ⟨H,0,none⟩ (.int .i64 c)).setCell ⟨H,1,none⟩ (.int .i64 l)).setCell ⟨H,2,none⟩ (.int .i64 k)).alloc (.cells #[.int .i64 c,.int .i64 l,.int .i64 k] 295)=AT w H c l k o):=au3 ⟨_,rfl⟩;clear hv
 go_wp2_with fail
 simp [bodyPostS,results,Tryz.results150];exact HE.out
set_option maxRecDepth 100000 in
theorem amQ (H:Nat) (w:World):
  CallsD at1 150 #[.pointer (some ⟨H,0,none⟩)] .returning w λe u' w'=>e=.returned (.tuple #[])/\u'=.returning/\w'=w:=by
 refine callsD_of_wpS Tryz.func150 rfl λc₀ cs hu=>?_;apply wpS_seq;apply wpS_region;simp [wpOpsS,go_sem,recoverD,hu,Tryz.ntmps150,Exit.thenS];have hT: #[Value.pointer (some ⟨H,0,none⟩)]++(aF7 11 undef).setIfInBounds 3 (.nilIface)= #[.pointer (some ⟨H,0,none⟩),undef,undef,undef,.nilIface,undef,undef,undef,undef,undef,undef,undef]:=by rfl
 rw[hT];clear hT;refine wpS_of_wp ?_
 go_wp2_with fail
 cases c₀;simp_all [bodyPostS,results,Tryz.results150]
namespace Fx
theorem RO{w:World}{b i:Nat}{cs:Array Value}{T:TypeId}(h:w.heap[b]? =some (.cells cs T (0,0)))(u:Value):(w.setCell ⟨b,i,none⟩ u).heap[b]? =some (.cells (cs.setIfInBounds i u) T (0,0)):=by simp only[World.setCell];rw[Array.getElem?_modify,if_pos rfl,h];simp
theorem aop{w:World}{b:Nat}{a0 L a2:Value}{T:TypeId}(h:w.heap[b]? =some (.cells #[a0,L,a2] T (0,0)))(D F J:Value):
  (((w.setCell ⟨b,0,none⟩ D).setCell ⟨b,1,none⟩ F).setCell ⟨b,2,none⟩ J).heap[b]? =some (.cells #[D,F,J] T (0,0)):=by
 have:=RO (i:=2) (RO (i:=1) (RO (i:=0) h D) F) J;simpa using this
theorem anq{v:Value}{q:Int×Int×Int}(h:pe v=some q):v=wY q.1 q.2.1 q.2.2:=by
 unfold pe at h;split at h
 ·split at h
  ·rename_i e;injection h with h;subst h;subst e;rfl
  ·cases h
 ·cases h
def tS(q:Int×Int×Int):List DC:=[.v (.int .i64) q.1,.v (.int .i64) q.2.1,.v (.int .i64) q.2.2]
def acK(s:aF):aF:=⟨oB s.sl 4 (.c (.ptr 2000 0)),oset s.hp 2000 (.var 89 (tS (0,0,0)))⟩
def Nw:Option aR->Bool
 |some (.var t [_,_,_])=>au9 t 89
 |_=>false
def A0:DS->Bool
 |.c (.ptr k i)=>au9 k 2000&&au9 i 0
 |_=>false
def Gb{R:Type}(k k2:aF->Option R)(e:dA)(s:aF):Option R:=
 match Nw (aj s.hp 2000)&&A0 (bM s.sl 4)with
 |true=>match e with
  |.normal=>k s
  |.ret=>k s
  |.dx v=>(pe v).bind λq=>k2 ⟨s.sl,oset s.hp 2000 (.var 89 (tS q))⟩
  |.exit _=>none
 |false=>none
noncomputable def Ts:Option (Code×Code):=
 match at1.funcs[83]? with
 |some fn=>match fn.body with
  |some (.seq _ (.seq a (.seq _ b)))=>some (a,b)
  |_=>none
 |none=>none
noncomputable def sG{R A:Type}(o:Shape)(g:cm o->A)(K:A->R)(s:aF):Option R:=match AM 2000 at1 [.cell 4 89] o s with|some x=>some (K (g x))|none=>none
noncomputable def Up(G:List (cM at1))(M:List (Nat×bo))(aB D F J:Shape){A:Type}(g:cm F⊕cm J->A)(x:cm aB):Option A:=
 match Ts with
 |some (a,b)=>match oo 0 aB.sl&&au9 aB.sl.length 2&& !dq (D.sl.map (·.1)) 11&&(aj (mkD aB x).hp 2000).isNone with
  |true=>exec at1 37 [] [] a 6 A (acK (mkD aB x)) λe s1=>match e with
   |.normal=>match qK D s1 with
    |some L=>match A0 (bM (mkD D L).sl 4)with
     |true=>exec at1 37 G M b 15 A (mkD D L) (Gb (sG F .inl g) (sG J .inr g))
     |false=>none
    |none=>none
   |_=>none
  |false=>none
 |none=>none
theorem LR{R:Type}{k k2:aF->Option R}{e:dA}{s:aF}{y:R}(h:Gb k k2 e s=some y):A0 (bM s.sl 4)=true/\Nw (aj s.hp 2000)=true/\((e=.normal\/e=.ret)/\k s=some y\/∃q,e=.dx (wY q.1 q.2.1 q.2.2)/\k2 ⟨s.sl,oset s.hp 2000 (.var 89 (tS q))⟩=some y):=by
 unfold Gb at h;split at h
 ·rename_i D;rw[au0]at D;refine⟨D.2,D.1,?_⟩;cases e with
  |normal=>exact .inl ⟨.inl rfl,h⟩
  |ret=>exact .inl ⟨.inr rfl,h⟩
  |exit i=>cases h
  |dx v=>obtain⟨q,h1,h2⟩:=ay0.1 h;exact .inr ⟨q,by rw[anq h1],h2⟩
 ·cases h
theorem aq0{d:DS}(h:A0 d=true):d=.c (.ptr 2000 0):=by
 unfold A0 at h;split at h
 ·rw[au0]at h;rw[aw6 h.1,aw6 h.2]
 ·cases h
theorem arv{o:Option aR}(h:Nw o=true):∃a b c,o=some (.var 89 [a,b,c]):=by
 unfold Nw at h;split at h
 ·rename_i t a b c;exact⟨a,b,c,by rw[aw6 h]⟩
 ·cases h
def TZ:List Oper:=[⟨some 11,.makeFunc (.func 150) #[] #[.tmp 4],1, "reader.go:19",#[],none⟩,⟨none,.defer {callee:=.value (.tmp 11),args:= #[],argTypes:= #[]},0, "reader.go:19",#[⟨0,.data⟩],none⟩]
def uD(v:Value):Deferred:=⟨.fn (.func 150) #[v],#[]⟩
theorem ass{id:Nat}{a:Act}{w:World}{Q:Exit->Act->World->Prop}(hs:a.tmps.size=37)(h:Q .normal {tmps:=a.tmps.setIfInBounds 11 (.func (.func 150) #[] #[a.tmps.getD 4 undef]),defers:=uD (a.tmps.getD 4 undef)::a.defers} w):(Code.region id TZ.toArray false).wp at1 Q a w:=by
 refine wp_region ?_;obtain⟨F,df⟩:=a;simp only at hs h⊢;simp [wpOps,go_sem,TZ,Act.put,Act.eval,Instr.makeFunc];refine .inl (.inl ?_);have D:11<F.size:=by omega
 simp only[if_pos D,Sem.run_pure,Result.andThen_ok];rw[Oper.upon_defer];simpa[uD,Act.put]using h
theorem aoz {a b:Code} (h:Ts=some (a,b)): ∃fn D,at1.funcs[83]? =some fn/\fn.body=some (.seq (.region 0 D false) (.seq a (.seq (.region 3 TZ.toArray false) b)))/\D.toList=[⟨some 4,.alloc 89,0, "reader.go:15",#[],none⟩]/\fn.ntmps=37/\fn.results= #[.cell 4 89]:=by unfold Ts at h;rw[Tryz.func83] at h;injection h with h;injection h with h1 h2;subst h1;subst h2;exact⟨_,_,Tryz.func83,rfl,rfl,rfl,rfl⟩
set_option maxRecDepth 100000 in
theorem amP {E:cP} {s:aF} {a:Act} {w:World} {id:Nat} {ops:Array Oper} (O:ops.toList=[⟨some 4,.alloc 89,0, "reader.go:15",#[],none⟩]) (N:(aj s.hp 2000).isNone=true) (U:gE 37 E s a w):
  (Code.region id ops false).wp at1 (λe L w'=>e=.normal/\gE 37 E (acK s) L w') a w:=by
 obtain⟨⟨c,h1,h2⟩,F,M⟩:=U;have Y:vk at1 89=some [.int .i64 0,.int .i64 0,.int .i64 0]:=by kernel_rfl
 obtain⟨J,Z,ah,_⟩:=Tz Y w;have e:J.cells= #[.int .i64 0,.int .i64 0,.int .i64 0]:=by rw[<-aH0 (xs:=J.cells),Z]
 obtain⟨c',g1,g2,g3⟩:=h1.newVar (k:=2000) (by simpa using N) rfl 89 rfl (As (vs:=[.int .i64 0,.int .i64 0,.int .i64 0]) (l:=tS (0,0,0)) (c:=c) (h:=aj s.hp) (w:=w) rfl)
 have he:ops= #[⟨some 4,.alloc 89,0, "reader.go:15",#[],none⟩]:=by rw[<-aH0 (xs:=ops),O]
 subst he;refine wp_region ?_;show wpOps _ _ _ [0] a w;rw[wpOps_cons];unfold wpOp;simp only[List.getElem?_toArray,List.getElem?_cons_zero];split
 rotate_left
 ·rename_i hw;exact(hw rfl).elim
 refine .inl (nW (val:=.pointer (some ⟨w.heap.size,0,none⟩)) (w':=w.alloc (.cells #[.int .i64 0,.int .i64 0,.int .i64 0] 89)) (by simp [execOp,Instr.alloc,ah,Go.newVar,newRow,newObj,Sem.run,e]) ⟨rfl,⟨⟨c',?_,?_⟩,by rw[LH];exact F,by rw[put_defers];exact M⟩⟩)
 ·show Conc E c' (aj (oset s.hp 2000 _)) _;rw[ij];exact g1
 ·show∀t,SR c' (aj (oset s.hp 2000 _)) _ _ (bM (nr s.sl (some 4) _) t);rw[ij,Fc];exact L8 (d:=some 4) F (λx D=>by injection D with D;rw[<-D];decide) (λt=>(h2 t).fM g2) g3
theorem alo{n:Nat}{E:cP}{R:aF->Prop}{e:Exit}{a:Act}{w:World}(h:Ue n E (λe s=>e=.normal/\R s) e a w):e=.normal/\∃s,gE n E s a w/\R s:=by
 cases e<;>first|exact h.elim|skip
 ·obtain⟨s,h1,_,h2⟩:=h;exact⟨rfl,s,h1,h2⟩
 ·obtain⟨s,_,h,_⟩:=h;cases h
 ·obtain⟨s,_,h,_⟩:=h;cases h
 ·obtain⟨s,v,_,_,h,_⟩:=h;cases h
theorem ZN{E:cP}{c:Cx}{h:Hp}{w:World}{k b:Nat}{T:TypeId}{x0 x1 x2:DC}(hC:Conc E c h w)(hk:h k=some (.var T [x0,x1,x2]))(hm:c.m k=.pointer (some ⟨b,0,none⟩))(ah:dw k=false)(h0:au9 T iQ=false)(q:Int×Int×Int)(o:Obj):
  ∃a0 F a2,w.heap[b]? =some (.cells #[a0,F,a2] T (0,0))/\Conc E c (bK h k (some (.var T (tS q)))) (AT w b q.1 q.2.1 q.2.2 o)/\eN c h w c (bK h k (some (.var T (tS q)))) (AT w b q.1 q.2.1 q.2.2 o):=by
 obtain⟨O,cs,g1,g2,g3⟩:=hC.obj k _ hk;rw[ua h0]at g2;rw[hm]at g1;injection g1 with g1;injection g1 with g1;injection g1 with g1;subst g1;obtain⟨J,rfl⟩:∃J:List Value,cs=J.toArray:=⟨cs.toList,by simp⟩
 have Y:J.length=3:=by have:=g3.len;simpa using this
 obtain⟨a0,F,a2,rfl⟩:∃a0 F a2,J=[a0,F,a2]:=by
  match J,Y with
  |[a0,F,a2],_=>exact⟨a0,F,a2,rfl⟩
 refine⟨a0,F,a2,g2,?_⟩;have Z:=wc g2;have M:∀(w:World) (i:Nat) (u:Value) (j:Nat),j≠b->(w.setCell ⟨b,i,none⟩ u).heap[j]? =w.heap[j]? :=λw i u j D=>Below.heap_setCell _ _ _ _ D;have N:∀j,j<w.heap.size->(AT w b q.1 q.2.1 q.2.2 o).heap[j]? =(((w.setCell ⟨b,0,none⟩ (.int .i64 q.1)).setCell ⟨b,1,none⟩ (.int .i64 q.2.1)).setCell ⟨b,2,none⟩ (.int .i64 q.2.2)).heap[j]? :=λj D=>((Below.refl _ _).alloc (at9 _) o).block j (by simpa[World.setCell]using D)
 refine hC.put k (o':=.var T (tS q)) (fh _ _ _) (λj D=>⟨gP D,rfl⟩) rfl ⟨rfl,rfl,rfl,by simp [AT,World.alloc,World.setCell],λj h1 h2=>?_⟩ (λO U=>.inl ⟨⟨_,hk⟩,U⟩) (.inl ah) (s:=false) (λq=>by cases q) (λo L=>?_) λ_=>⟨b,#[.int .i64 q.1,.int .i64 q.2.1,.int .i64 q.2.2],hm,?_,.cons ⟨rfl,rfl⟩ (.cons ⟨rfl,rfl⟩ (.cons ⟨rfl,rfl⟩ .nil))⟩
 ·have D:j≠b:=λe=>h2 ⟨⟨_,hk⟩,by rw[hm,e];rfl⟩
  rw[N j h1,M _ _ _ _ D,M _ _ _ _ D,M _ _ _ _ D]
 ·rw[hk]at L;injection L with L;subst L;exact⟨⟨_,rfl⟩,rfl⟩
 ·rw[ua h0,N b Z];exact aop g2 _ _ _
theorem Zl{R A:Type}{o:Shape}{g:cm o->A}{K:A->R}{s:aF}{y:R}(h:sG o g K s=some y):∃x,AM 2000 at1 [.cell 4 89] o s=some x/\K (g x)=y:=by
 unfold sG at h;split at h
 ·rename_i x D;injection h with h;exact⟨x,D,h⟩
 ·cases h
set_option maxRecDepth 100000 in
theorem aqt {G:List (cM at1)} {an:List (Nat×bo)} {aB J M U:Shape} {A:Type} {g:cm M⊕cm U->A} {h:A->cm M⊕cm U} (a8:∀o,h (g o)=o) (ds:M.sl.all (λp=>nZ p.2)=true) (ea:U.sl.all (λp=>nZ p.2)=true) {x:cm aB} {y:A} (hb:Up G an aB J M U g x=some y):
  fw at1 83 ((mkD aB x).sl.map (·.2)) (mkD aB x).hp (ni [(false,M),(false,U)] (h y)):=by
 unfold Up at hb;split at hb<;>try (cases hb;done)
 rename_i ca cb cx;split at hb<;>try (cases hb;done)
 rename_i hB;simp only[au0,ay6]at hB;obtain⟨⟨⟨hk,cp⟩,b5⟩,bp⟩:=hB;obtain⟨fn,r0,hf,cg,dd,bx,dk⟩:=aoz cx;intro c w vals hC hv;refine calls_of_wp_defers hf cg ?_;have b2:=abu hk hC hv fn.ntmps;rw[aw6 cp,bx]at b2;rw[bx];refine wp_seq (Code.wp_mono (λe a1 w1 L=>?_) (amP dd bp b2));obtain⟨rfl,ec⟩:=L;show Code.wp _ _ _ _ _;refine wp_seq (Code.wp_mono (λe a2 w2 L=>?_) (Tq at1 37 [] [] ca 6 A _ _ y hb (λe s1=>e=.normal/\∃F,qK J s1=some F/\A0 (bM (mkD J F).sl 4)=true/\exec at1 37 G an cb 15 A (mkD J F) (Gb (sG M .inl g) (sG U .inr g))=some y) (λe s1 hk=>?_) _ a1 w1 ec))
 rotate_left
 ·split at hk<;>try (cases hk;done)
  split at hk<;>try (cases hk;done)
  rename_i F az;split at hk<;>try (cases hk;done)
  rename_i hp;exact⟨rfl,F,az,hp,hk⟩
 obtain⟨rfl,s1,ed,F,az,c8,cd⟩:=alo L;clear L hb;have eg:=(tQ az).AV.told ed;show Code.wp _ _ _ _ _;obtain⟨⟨c1,aE,a6⟩,b1,ch⟩:=eg;have h4:=a6 4;rw[aq0 c8]at h4;obtain⟨_,_,c5,⟨ty,cells,rfl⟩,b,cw,ei⟩:=h4;refine wp_seq (ass b1 ?_);rw[ei,show a2.defers=[] from ch]
 show Code.wp _ _ _ _ _
 have eh:gE 37 {cS w2 c1 (aj (mkD J F).hp)with df:=[uD (.pointer (some ⟨b,0,none⟩))]} (mkD J F) {tmps:=a2.tmps.setIfInBounds 11 (.func (.func 150) #[] #[.pointer (some ⟨b,0,none⟩)]),defers:=[uD (.pointer (some ⟨b,0,none⟩))]} w2:=by
  refine⟨⟨c1,aE.hand.df _,λt=>?_⟩,by simpa using b1,rfl⟩
  by_cases e:t=11
  ·subst e;rw[LS (l:=(mkD J F).sl) (by rw[show(mkD J F).sl.map (·.1)=J.sl.map (·.1) from mkSl_keys J.sl F,<-nU,b5];simp)]
   trivial
  ·have e2:(a2.tmps.setIfInBounds 11 (.func (.func 150) #[] #[.pointer (some ⟨b,0,none⟩)])).getD t undef=a2.tmps.getD t undef:=by
     simp [Array.getD_eq_getD_getElem?,Array.getElem?_setIfInBounds,Ne.symm e]
   rw[e2];exact a6 t
 have c3:(cS w c (aj (mkD aB x).hp)).H 2000=none:=by
  show(if 1000<=2000/\2000<3000 then aj (mkD aB x).hp 2000 else none)=none
  rw[if_pos (by decide)];simpa using bp
 have fin:∀(ah:Shape),ah.sl.all (λp=>nZ p.2)=true->∀(a4:Act) (N:World) (s2:aF) (o:cm ah),AU 37 {cS w2 c1 (aj (mkD J F).hp)with df:=[uD (.pointer (some ⟨b,0,none⟩))]} s2 a4 N->AM 2000 at1 [.cell 4 89] ah s2=some o->
   ∃v,(results fn a4.tmps).run at1 N=.ok v N/\∃c',pW (cS w c (aj (mkD aB x).hp)) (.returned v) c' N (.ret (sF (mkD ah o).sl) (mkD ah o).hp):=by
  intro ah c6 a4 N s2 o ht hr;obtain⟨⟨c4,h4,ar,g1,g2,g3⟩,g4,g5⟩:=ht;have b7:Conc {cS w c (aj (mkD aB x).hp)with df:=[uD (.pointer (some ⟨b,0,none⟩))]} c4 h4 N:=(Conc.leave aE (ar.df [])).df _
  obtain⟨v,r1,c',b6,hV⟩:=Ta c6 hr 37 {cS w c (aj (mkD aB x).hp)with df:=[uD (.pointer (some ⟨b,0,none⟩))]} a4 N c3 ⟨⟨c4,h4,b7,g1,g2,g3⟩,g4,g5⟩
  exact⟨v,r1 fn dk,c',v,rfl,b6.df [],hV⟩
 have idle:∀(a4:Act) (Y:World) (D:aF),gE 37 {cS w2 c1 (aj (mkD J F).hp)with df:=[uD (.pointer (some ⟨b,0,none⟩))]} D a4 Y->sG M .inl g D=some y->Leaves at1 fn a4.tmps (λe w'=>∃c',pW (cS w c (aj (mkD aB x).hp)) e c' w' (ni [(false,M),(false,U)] (h y))) a4.defers .returning Y:=λa4 Y D O hk=>by
  rw[show a4.defers=_ from O.2.2]
  refine leaves_cons (f:=150) (args:= #[.pointer (some ⟨b,0,none⟩)]) (by simp) (by simp [go_sem]) ?_
  refine(amQ b Y).mono ?_;rintro e u' N ⟨rfl,rfl,rfl⟩;obtain⟨o,ho,hy⟩:=Zl hk;obtain⟨v,r1,hc⟩:=fin M ds a4 N D o O.p ho;rw[<-hy,a8];exact⟨v,r1,hc⟩
 refine Code.wp_mono (λe a4 Y L=>?_) (Tq at1 37 G an cb 15 A _ _ y cd (λe D=>Gb (sG M .inl g) (sG U .inr g) e D=some y) (λe D hk=>hk) _ _ w2 eh);cases e<;>first|exact L.elim|skip
 ·obtain⟨D,O,hk⟩:=L;obtain⟨_,_,⟨_,hk⟩|⟨q,e,_⟩⟩:=LR hk
  ·exact idle a4 Y D O hk
  ·cases e
 ·obtain⟨D,O,hk⟩:=L;obtain⟨_,_,⟨e,_⟩|⟨q,e,_⟩⟩:=LR hk
  ·rcases e with e|e<;>cases e
  ·cases e
 ·obtain⟨D,O,hk⟩:=L;obtain⟨_,_,⟨_,hk⟩|⟨q,e,_⟩⟩:=LR hk
  ·exact idle a4 Y D O hk
  ·cases e
 ·obtain⟨D,pv,rfl,O,hk⟩:=L;obtain⟨_,cj,⟨e,_⟩|⟨q,e,ck⟩⟩:=LR hk
  ·rcases e with e|e<;>cases e
  ·injection e with e;subst e;obtain⟨⟨c4,h4,ar,g1,g2,g3⟩,eb,a7⟩:=O;obtain⟨d0,d1,d2,b0⟩:=arv cj
   have bb:c4.m 2000=.pointer (some ⟨b,0,none⟩):=by
    obtain⟨_,_,_,h2⟩:=ar.ga 2000 (.var ty cells) (by show(if 1000<=2000/\2000<3000 then aj (mkD J F).hp 2000 else none)=_;rw[if_pos (by decide)];exact c5)
    exact h2.2.trans cw
   show Leaves _ _ _ _ a4.defers _ Y;rw[show a4.defers=_ from a7]
   obtain⟨a0,b3,b4,hh,_,_⟩:=ZN ar (g1 _ _ b0) bb rfl rfl q default;refine leaves_cons (f:=150) (args:= #[.pointer (some ⟨b,0,none⟩)]) (by simp) (by simp [go_sem]) ?_
   refine(aoA b q.1 q.2.1 q.2.2 [] Y _ a0 b3 b4 hh).mono ?_;rintro e u' N ⟨rfl,rfl,ob,rfl⟩;obtain⟨_,_,_,_,b8,cc⟩:=ZN ar (g1 _ _ b0) bb rfl rfl q ob;obtain⟨o,ho,hy⟩:=Zl ck;rw[<-hy,a8];refine fin U ea a4 _ ⟨D.sl,oset D.hp 2000 (.var 89 (tS q))⟩ o ⟨⟨c4,_,b8,λk o e=>?_,λk e Z=>?_,λt=>(g3 t).fM cc⟩,eb,a7⟩ ho
   ·have e:aj (oset D.hp 2000 _) k=some o:=e;rw[ij]at e;by_cases hk:k=2000
    ·subst hk;rw[fh]at e⊢;exact e
    ·rw[gP hk]at e⊢;exact g1 k o e
   ·have Z:aj (oset D.hp 2000 _) k=none:=Z;rw[ij]at Z;by_cases hk:k=2000
    ·subst hk;rw[fh]at Z;cases Z
    ·rw[gP hk]at e Z;exact g2 k e Z
noncomputable def mkEach(G:List (cM at1))(M:List (Nat×bo))(aB Y D J:Shape){A:Type}(g:cm D⊕cm J->A)(h:A->cm D⊕cm J)(O:∀o,h (g o)=o)(F:cm aB->Option A)(eT:oy aB [(false,D),(false,J)]=true)(N:∀x,Up G M aB Y D J g x=F x):cM at1:=
 ⟨83,aB,[(false,D),(false,J)],λR x k=>(F x).bind λr=>k (h r),eT,λR x k y U=>by
  obtain⟨r,h1,h2⟩:=ay0.1 U;have L:D.sl.all (λp=>nZ p.2)=true/\J.sl.all (λp=>nZ p.2)=true:=by unfold oy at eT;simp only[au0,ay4,List.all_nil]at eT;exact⟨eT.2.1.2,eT.2.2.1.2⟩
  exact⟨h r,h2,aqt O L.1 L.2 (by rw[N];exact h1)⟩⟩
end Fx
end Go.Proofs.YtejhifnjgoclpaaGreatDoor
namespace Go.Proofs.YtejhifnjgoclpaaGreatDoor.Fx
open Go.RowKit
set_option maxRecDepth 1000000
noncomputable section
variable {α γ:Type} (call:α->α->γ->Option Int)
def tn:Int×Int×γ×Int×Int×(List α)×Unit->Option ((Int×Int×γ×Int×Int×(List α)×Unit)⊕((Int×Int×γ×Int×(List α)×Unit))):=λ(F,M,L,N,j,D,_)=>bif decide (F<j)then J (0<=j/\j<D.length)<|(D[j.toNat]?).bind λy=>J (ab .i64 (j-1))<|J (0<=(j-1)/\(j-1)<D.length)<|(D[(j-1).toNat]?).bind λY=>(call y Y L).bind λU=>bif decide (U<0)then J (ab .i64 (j-1))<|J (ab .i64 (j-1))<|J (0<=(j-1)/\(j-1)<D.length)<|(D[(j-1).toNat]?).bind λO=>J (0<=j/\j<D.length)<|(D[j.toNat]?).bind λZ=>J (0<=j/\j<D.length)<|(D[j.toNat]?).bind λq=>J (0<=(j-1)/\(j-1)<(D.set j.toNat O).length)<|((D.set j.toNat O)[(j-1).toNat]?).bind λah=>J (ab .i64 (j-1))<|some (.inl (F,M,L,N,(j-1),((D.set j.toNat O).set (j-1).toNat Z),()))else some (.inr (F,M,L,N,D,()))else some (.inr (F,M,L,N,D,()))
def yx:Int×Int×γ×Int×(List α)×Unit->Option ((Int×Int×γ×Int×(List α)×Unit)⊕(((List α)×Unit))):=λ(M,D,U,i,L,_)=>bif decide (i<D)then(ae (tn call) (M,D,U,i,i,L,())).bind λ(N,O,Y,F,Z,_)=>J (ab .i64 (F+1))<|some (.inl (N,O,Y,(F+1),Z,()))else some (.inr (L,()))
def vF(a b:Int)(cmp:γ)(l:List α):Option (List α):=J (ab .i64 (a+1))<|(ae (yx call) (a,b,cmp,(a+1),l,())).bind λ(D,_)=>some D
def CT:Int×Int×Int×Int×(List α)×Unit->Option ((Int×Int×Int×Int×(List α)×Unit)⊕(((List α)×Unit))):=λ(D,F,M,i,L,_)=>bif decide (i<M)then J (ab .i64 (D+i))<|J (ab .i64 (F+i))<|J (ab .i64 (F+i))<|J (0<=(F+i)/\(F+i)<L.length)<|(L[(F+i).toNat]?).bind λy=>J (ab .i64 (D+i))<|J (0<=(D+i)/\(D+i)<L.length)<|(L[(D+i).toNat]?).bind λN=>J (0<=(D+i)/\(D+i)<L.length)<|(L[(D+i).toNat]?).bind λq=>J (0<=(F+i)/\(F+i)<(L.set (D+i).toNat y).length)<|((L.set (D+i).toNat y)[(F+i).toNat]?).bind λO=>J (ab .i64 (i+1))<|some (.inl (D,F,M,(i+1),((L.set (D+i).toNat y).set (F+i).toNat N),()))else some (.inr (L,()))
def vI(a b n:Int)(cmp:γ)(l:List α):Option (List α):=(ae CT (a,b,n,0,l,())).bind λ(D,_)=>some D
def vL:Int×γ×Int×Int×(List α)×Unit->Option ((Int×γ×Int×Int×(List α)×Unit)⊕((Int×γ×Int×(List α)×Unit))):=λ(F,L,D,j,M,_)=>bif !decide (D=j)then bif decide (j<D)then J (ab .i64 (F-D))<|(vI (F-D) F j L M).bind λN=>J (ab .i64 (D-j))<|J (M.length=N.length)<|some (.inl (F,L,(D-j),j,N,()))else J (ab .i64 (F-D))<|J (ab .i64 (F+j))<|J (ab .i64 ((F+j)-D))<|(vI (F-D) ((F+j)-D) D L M).bind λO=>J (ab .i64 (j-D))<|J (M.length=O.length)<|some (.inl (F,L,D,(j-D),O,()))else some (.inr (F,L,D,M,()))
def vQ(a m b:Int)(cmp:γ)(l:List α):Option (List α):=J (ab .i64 (m-a))<|J (ab .i64 (b-m))<|(ae vL (m,cmp,(m-a),(b-m),l,())).bind λ(F,L,D,M,_)=>J (ab .i64 (F-D))<|(vI (F-D) F D L M).bind λN=>some N
def tw(rc:(Int)->(Int)->(Int)->γ->(List α)->Option (List α)):Int×γ×Int×Int×(List α)×Unit->Option ((Int×γ×Int×Int×(List α)×Unit)⊕((Int×Int×(List α)×Unit))):=λ(M,N,D,F,L,_)=>bif decide (D<F)then J (ab .i64 (D+F))<|J (0<=(1:Int))<|J (0<=(hf (D+F))/\(hf (D+F))<L.length)<|(L[(hf (D+F)).toNat]?).bind λy=>J (0<=M/\M<L.length)<|(L[M.toNat]?).bind λU=>(call y U N).bind λO=>bif decide (O<0)then J (ab .i64 ((hf (D+F))+1))<|some (.inl (M,N,((hf (D+F))+1),F,L,()))else some (.inl (M,N,D,(hf (D+F)),L,()))else some (.inr (M,D,L,()))
def yD(rc:(Int)->(Int)->(Int)->γ->(List α)->Option (List α)):Int×Int×(List α)×Unit->Option ((Int×Int×(List α)×Unit)⊕(((List α)×Unit))):=λ(L,D,F,_)=>J (ab .i64 (L-1))<|bif decide (D<(L-1))then J (ab .i64 (D+1))<|J (ab .i64 (D+1))<|J (0<=(D+1)/\(D+1)<F.length)<|(F[(D+1).toNat]?).bind λM=>J (0<=D/\D<F.length)<|(F[D.toNat]?).bind λN=>J (0<=D/\D<F.length)<|(F[D.toNat]?).bind λq=>J (0<=(D+1)/\(D+1)<(F.set D.toNat M).length)<|((F.set D.toNat M)[(D+1).toNat]?).bind λO=>J (ab .i64 (D+1))<|some (.inl (L,(D+1),((F.set D.toNat M).set (D+1).toNat N),()))else some (.inr (F,()))
def tv(rc:(Int)->(Int)->(Int)->γ->(List α)->Option (List α)):Int×γ×Int×Int×(List α)×Unit->Option ((Int×γ×Int×Int×(List α)×Unit)⊕((Int×Int×(List α)×Unit))):=λ(M,N,D,F,L,_)=>bif decide (D<F)then J (ab .i64 (D+F))<|J (0<=(1:Int))<|J (0<=M/\M<L.length)<|(L[M.toNat]?).bind λU=>J (0<=(hf (D+F))/\(hf (D+F))<L.length)<|(L[(hf (D+F)).toNat]?).bind λY=>(call U Y N).bind λO=>bif !(decide (O<0))then J (ab .i64 ((hf (D+F))+1))<|some (.inl (M,N,((hf (D+F))+1),F,L,()))else some (.inl (M,N,D,(hf (D+F)),L,()))else some (.inr (M,D,L,()))
def yC(rc:(Int)->(Int)->(Int)->γ->(List α)->Option (List α)):Int×Int×(List α)×Unit->Option ((Int×Int×(List α)×Unit)⊕(((List α)×Unit))):=λ(M,D,F,_)=>bif decide (M<D)then J (ab .i64 (D-1))<|J (ab .i64 (D-1))<|J (0<=(D-1)/\(D-1)<F.length)<|(F[(D-1).toNat]?).bind λL=>J (0<=D/\D<F.length)<|(F[D.toNat]?).bind λN=>J (0<=D/\D<F.length)<|(F[D.toNat]?).bind λO=>J (0<=(D-1)/\(D-1)<(F.set D.toNat L).length)<|((F.set D.toNat L)[(D-1).toNat]?).bind λU=>J (ab .i64 (D-1))<|some (.inl (M,(D-1),((F.set D.toNat L).set (D-1).toNat N),()))else some (.inr (F,()))
def oT(rc:(Int)->(Int)->(Int)->γ->(List α)->Option (List α)):Int×Int×Int×γ×Int×Int×Int×Int×Int×(List α)×Unit->Option ((Int×Int×Int×γ×Int×Int×Int×Int×Int×(List α)×Unit)⊕((Int×Int×Int×γ×Int×Int×Int×(List α)×Unit))):=λ(Y,Z,ah,N,O,U,D,F,M,L,_)=>bif decide (D<F)then J (ab .i64 (D+F))<|J (0<=(1:Int))<|J (ab .i64 (M-(hf (D+F))))<|J (0<=(M-(hf (D+F)))/\(M-(hf (D+F)))<L.length)<|(L[(M-(hf (D+F))).toNat]?).bind λar=>J (0<=(hf (D+F))/\(hf (D+F))<L.length)<|(L[(hf (D+F)).toNat]?).bind λaz=>(call ar az N).bind λan=>bif !(decide (an<0))then J (ab .i64 ((hf (D+F))+1))<|some (.inl (Y,Z,ah,N,O,U,((hf (D+F))+1),F,M,L,()))else some (.inl (Y,Z,ah,N,O,U,D,(hf (D+F)),M,L,()))else some (.inr (Y,Z,ah,N,O,U,D,L,()))
def CY(rc:Int->Int->Int->γ->List α->Option (List α))(L F N:Int)(Y:γ)(l:List α):Option (List α):=J (ab .i64 (F-L))<|bif decide ((F-L)=1)then(ae (tw call rc) (L,Y,F,N,l,())).bind λ(a,b,q,_)=>(ae (yD rc) (b,a,q,())).bind λ(q,_)=>some q else J (ab .i64 (N-F))<|bif decide ((N-F)=1)then(ae (tv call rc) (F,Y,L,F,l,())).bind λ(a,b,q,_)=>(ae (yC rc) (b,a,q,())).bind λ(q,_)=>some q else J (ab .i64 (L+N))<|J (0<=(1:Int))<|let M:Int:=hf (L+N);let K:Int×Int×Int×γ×Int×Int×Int×List α×Unit->Option (List α):=λ(Z,y2,y3,U,O,z2,z3,o,_)=>J (ab .i64 (z2-z3))<|let w:Int:=z2-z3;let D0:List α->Option (List α):=λq=>bif decide (O<w)then(bif decide (w<y3)then(rc O w y3 U q).bind λs=>some s else some q)else some q;let D:List α->List α->Option (List α):=λp q=>bif decide (O<w)then(bif decide (w<y3)then J (p.length=q.length)<|(rc O w y3 U q).bind λs=>some s else some q)else some q;let E0:List α->Option (List α):=λq=>bif decide (Z<z3)then(bif decide (z3<O)then(rc Z z3 O U q).bind λs=>D q s else D0 q)else D0 q;let E:List α->List α->Option (List α):=λp q=>bif decide (Z<z3)then(bif decide (z3<O)then J (p.length=q.length)<|(rc Z z3 O U q).bind λs=>D q s else D p q)else D p q;bif decide (z3<y2)then(bif decide (y2<w)then(vQ z3 y2 w U o).bind λr=>E o r else E0 o)else E0 o;J (ab .i64 (M+F))<|bif decide (M<F)then J (ab .i64 ((M+F)-N))<|J (ab .i64 ((M+F)-1))<|(ae (oT call rc) (L,F,N,Y,M,(M+F),((M+F)-N),M,((M+F)-1),l,())).bind K else J (ab .i64 ((M+F)-1))<|(ae (oT call rc) (L,F,N,Y,M,(M+F),L,F,((M+F)-1),l,())).bind K
def tu(rc:Int×Int×Int×γ×(List α)×Unit->Option (List α)):Int×Int×Int×γ×(List α)×Unit->Option (List α):=λx=>(CY call) (λa0 D a2 a3 a4=>rc (a0,D,a2,a3,a4,())) x.1 x.2.1 x.2.2.1 x.2.2.2.1 x.2.2.2.2.1
def Jr(a0 D a2:Int)(a3:γ)(a4:List α):Option (List α):=pG (tu call) (a0,D,a2,a3,a4,())
def vK:Int×γ×Int×Int×Int×(List α)×Unit->Option ((Int×γ×Int×Int×Int×(List α)×Unit)⊕((Int×γ×Int×Int×(List α)×Unit))):=λ(L,F,D,N,b,M,_)=>bif decide (b<=L)then((vF call) N b F M).bind λO=>J (ab .i64 (b+D))<|J (M.length=O.length)<|some (.inl (L,F,D,b,(b+D),O,()))else some (.inr (L,F,D,N,M,()))
def vJ:Int×γ×Int×Int×Int×(List α)×Unit->Option ((Int×γ×Int×Int×Int×(List α)×Unit)⊕((Int×γ×Int×Int×(List α)×Unit))):=λ(N,M,D,L,F,O,_)=>bif decide (F<=N)then J (ab .i64 (L+D))<|((Jr call) L (L+D) F M O).bind λU=>J (ab .i64 (2*D))<|J (ab .i64 (F+(2*D)))<|J (O.length=U.length)<|some (.inl (N,M,D,F,(F+(2*D)),U,()))else some (.inr (N,M,D,L,O,()))
def tz:Int×γ×Int×(List α)×Unit->Option ((Int×γ×Int×(List α)×Unit)⊕(((List α)×Unit))):=λ(U,ah,L,Y,_)=>bif decide (L<U)then J (ab .i64 (2*L))<|(ae (vJ call) (U,ah,L,0,(2*L),Y,())).bind λ(M,N,D,F,O,_)=>J (ab .i64 (F+D))<|bif decide ((F+D)<M)then((Jr call) F (F+D) M N O).bind λZ=>J (ab .i64 (D*2))<|J (O.length=Z.length)<|some (.inl (M,N,(D*2),Z,()))else J (ab .i64 (D*2))<|some (.inl (M,N,(D*2),O,()))else some (.inr (Y,()))
def Dm(n:Int)(cmp:γ)(l:List α):Option (List α):=(ae (vK call) (n,cmp,20,0,20,l,())).bind λ(L,D,O,N,M,_)=>((vF call) N L D M).bind λF=>(J (M.length=F.length)<|ae (tz call) (L,D,O,F,())).bind λ(U,_)=>some U
def yM(cmp:γ)(l:List α):Option (List α):=((Dm call) (l.length:Int) cmp l).bind λD=>some D
def gB:List UInt8:=[46]
def oj:List UInt8:=[45]
def ads:List UInt8:=[33,61]
def ac3:List UInt8:=[60]
def ac4:List UInt8:=[60,61]
def ac1:List UInt8:=[62]
def acv:List UInt8:=[62,61]
def acu:List UInt8:=[126]
def ac0:List UInt8:=[94]
def kN:List UInt8:=[42]
def ac2:List UInt8:=[61]
def qu:List UInt8:=[115,111,117,114,99,101]
def WU:List UInt8:=[55,102,102,56,48,48,48,48,48,48,48,48,48,48,48,49]
def jV:List UInt8:=[111,112,101,110]
def wC:List UInt8:=[99,108,111,115,101,100]
def qx:List UInt8:=[99,108,97,105,109]
def iK:List UInt8:=[97,108,108,111,119]
def pj:List UInt8:=[100,101,110,121]
def im:List UInt8:=[102,105,114,115,116]
def w8:List UInt8:=[112,105,110]
def qD:List UInt8:=[104,97,115,104]
def wB:List UInt8:=[116,101,110,97,110,116]
def R8:List UInt8:=[112,111,108,105,99,121]
def S6:List UInt8:=[105,110,100,101,120]
def S7:List UInt8:=[101,110,116,114,121]
def Fl:List UInt8:=[121,97,110,107,101,100]
def jg:List UInt8:=[98,97,110]
def kG:List UInt8:=[110,101,101,100]
def gy:List UInt8:=[102,101,97,116,117,114,101]
def T8:List UInt8:=[10]
def T7:List UInt8:=[35]
def AL:List UInt8:=[64]
def T5:List UInt8:=[47]
def TI:List UInt8:=[124]
def T6:List UInt8:=[44]
def Q2:List UInt8:=[109,97,110,105,102,101,115,116]
def pg:List UInt8:=[114,111,111,116]
def agV:List UInt8:=[112,111,108,105,99,121,10,115,111,117,114,99,101,32,109,97,105,110,32,51,102,102,48,48,48,48,48,48,48,48,48,48,48,48,48,32,111,112,101,110,10,116,101,110,97,110,116,32,116,32,45,10]
def s_t:List UInt8:=[116]
def ahd:List UInt8:=[109,97,110,105,102,101,115,116,10,114,111,111,116,32,97,32,42,10]
abbrev Lp(V R:Type):=V->Option (V⊕R)
abbrev aa:=List UInt8
abbrev ak:=List aa
abbrev jQ:=Int×Int×Int
abbrev gL:=jQ×aa
abbrev sP:=List (Int×gL)
abbrev k8:=List sP
abbrev pN:=aa×k8×ak
abbrev cz:=List pN
abbrev p7:=List (aa×cz)
abbrev oM:=aa×gL×Int×Int×Bool×cz×cz×p7
abbrev xu:=aa×aa×ak
abbrev aT:=List xu
abbrev oP:=List (aa×aT)
abbrev ye:=aa×aa×aa×aa×Bool×aT×aT×oP
abbrev Bn:=aa×Int
abbrev dr:=List (ye×Bn)
abbrev iH:=List Bn
abbrev aM:=List Int
abbrev gh:=List (aa×aM)
abbrev gg:=List (aa×gL)
abbrev NH:=aa×Int×ak
abbrev fN:=List NH
abbrev ft:=List (aa×Nat×Bool)
abbrev ib:=ft×fN×gg×gh×iH
abbrev nL:=Int×Int×jQ
abbrev q8:=aa×aa
abbrev br:=List q8
abbrev Ia:=Int×ak×aM
abbrev NI:=(oM×aa)×Int
abbrev jw:=List NI
abbrev Gu:=iH×Unit
abbrev O7:=ft×fN×gg×gh×Gu
abbrev cF:=List (nL×aM)
abbrev iG:=List (oM×aa)
abbrev gw:=Int×Unit
abbrev fu:=iG×cz×br
abbrev jv:=List (aa×q8)
abbrev Gv:=cz×Unit
abbrev kV:=List oM
abbrev US:=Bool×kV×cz×cz×Bool×p7×Gv
abbrev adR:=cz×cz×Bool×p7×aa×Gv
abbrev bL:=Ia×Int
abbrev yd:=Option (aa×Bool×kV×aa×Int×Int×Int×aa×Int×Int×Bool×bL×adR⊕Value×US)
abbrev eI:=List nL
abbrev nw:=eI×Unit
abbrev nK:=Int×Int×nw
abbrev gf:=List (aa×ak)
abbrev c7:=Ia×Int×jQ
abbrev bX:=Option Bool
abbrev bU:=Option Int
abbrev nv:=cF×Unit
abbrev yf:=Int×dr×aT×br×aa×aa×aa×aa×Bool×aT×aT×oP×nv
abbrev pP:=Int×Int×Int×ak
abbrev Ic:=List (Int×pP)
abbrev lV:=aM×Unit
abbrev O9:=Int×Int×Int×Int×Int×ak×lV
abbrev k7:=List Ic
abbrev kW:=Int×gw
abbrev kt:=Int×kW
abbrev pQ:=Int×kt
abbrev UP:=Int×ak×aM×pQ
abbrev rz:=aa×aa×aa×aa×Bool×aa×aa×aa×aa×aT×aT×Bool×oP×aa×aT×UP
abbrev lX:=jv×aT×br×gf×br
abbrev lW:=br×Unit
abbrev p6:=aa×Unit
abbrev ti:=Int×Int×p6
abbrev O8:=jv×aT×br×gf×lW
abbrev NO:=jw×Unit
abbrev Bm:=List ye
abbrev oO:=List (aa×Bm)
abbrev lK:=ak×Unit
abbrev oN:=Int×Int×Int×lK
abbrev uM:=bL×Unit
abbrev Ib:=Option (ft×fN×gg×gh×iH×uM⊕Value×O7)
abbrev Wl:=aa×Bool×kV×aa×Int×Int×Int×aa×Int×Int×Bool×adR
abbrev uO:=Option jw
abbrev adP:=Int×Int×Int×Int×Int×nv
abbrev Wj:=aT×aM×Int×dr×aT×br×adP
abbrev rA:=List (aa×kV)
abbrev sR:=Value×Unit
abbrev Co:=Option (aa×uM⊕sR)
abbrev Cn:=aa×ak×jv×aT×br×gf×br×UP
abbrev mC:=Option eI
abbrev Bo:=Int->Int->Int->eI->mC
abbrev gr:=List Ia
abbrev q9:=Option (aa×Bool)
abbrev adM:=aT×aT×Bool×oP×aa×aT×Unit
abbrev NQ:=aa×aa×aa×aa×aa×aa×Bool×Bm×aa×aa×aa×aa×Bool×Int×ak×aM×Int×Int×Int×Int×adM
abbrev pO:=Unit⊕gw
abbrev oD:=Unit⊕Unit
abbrev sQ:=Option (Int×Bool)
abbrev NR:=aM×gw
abbrev NP:=ft×fN×gg×gh×iH×Int×ak×NR
abbrev uL:=dr×aT×br
abbrev NN:=Int×Int×Int×gr×Unit
abbrev q7:=Int×nK
abbrev mD:=aa×gw
abbrev adX:=aa×oO×dr×Int×Int×Int×jv×aT×br×gf×br×aa×aa×aa×aa×Bool×aT×aT×oP×mD
abbrev adW:=Lp (aT×aM×Int×Int×dr×aT×br×Int×Int×Int×Int×Int×adP) Wj
abbrev Bs:=aa×Int×Int×Int×aa×Bool×Bm×aa×aa×aa×aa×Bool×adM
abbrev uP:=Option aM
abbrev Br:=Int×Int×O9
abbrev ad0:=Int×aa×ft×fN×gg×gh×iH×Int×jv×aT×br×gf×br×aa×oO×rA×Unit
abbrev adZ:=ft×fN×gg×gh×iH×NO
abbrev uN:=Int×Int×Int×aa×Int×ti
abbrev UW:=Int×jv×aT×br×gf×br×dr×Unit
abbrev ra:=Option cF
abbrev UM:=cz×Int×Int×lW
abbrev adY:=Lp (cz×Int×Int×ak×Int×Int×aa×k8×ak×lW) UM
abbrev UU:=Int×Int×adZ
abbrev UT:=Option (jv×aT×br×gf×br×c7)
abbrev Bq:=Option (aa×aa×aa×aa×Bool×aT×aT×Bool×oP×aa×aT×c7)
abbrev Bj:=Int×lV
abbrev Bp:=Int×Bj
abbrev Gw:=Option (Bool×aa)
abbrev sS:=Option aa
abbrev NU:=Int×Int×Int×ak×oN
abbrev NT:=aT×lW
abbrev Gy:=Option (Int×aa)
abbrev NS:=Int×aa×p6
abbrev Gx:=Int×cz×nK
abbrev Bt:=Int×Int×ti
abbrev NL:=Int×Int×k8×Unit
abbrev sO:=Int×q7
abbrev Gt:=Option br
abbrev Gs:=p6⊕Int×p6
abbrev Bh:=Option ak
abbrev NK:=Option (aa×c7)
abbrev NJ:=Option (gr×jQ)
abbrev UO:=Int×Int×br×iG×Gv
abbrev Gr:=aM×kW
abbrev sN:=Bool×Gv
abbrev sM:=Bool×O7
abbrev UN:=Option (Int×uM⊕sR)
abbrev adN:=Lp (Int×jv×aT×br×gf×br×lK) lK
abbrev att:=xu×aa
abbrev NG:=Int×Int×Br
abbrev NF:=Int×Int×pQ
abbrev atr:=iG×cz×dr×aT
abbrev adV:=Lp (Int×aa×Int×rz) (aa×rz)
abbrev adU:=Option (aM×Bool)
abbrev UQ:=Int×Int×Int×NN
abbrev adT:=aa×aa×k8×ak×Int×ak×NR
abbrev Bk:=Int×O8
abbrev Bi:=gw⊕gw
abbrev adS:=Int×Int×Int×ib×NO->uO
abbrev adQ:=Lp (Int×ak×O8) (ak×O8)
abbrev adO:=fu×Int×Int×br×Int×Gx
abbrev NM:=aa×aa×aa×aa×ak×UP
def Dp:Lp (aa×kW) (p6⊕Unit):=λ(F,L,D,_)=>let M:UInt8->Option (aa×kW⊕p6⊕Unit):=λb=>bif decide ((b.toNat:Int)<97)then bif !decide ((b.toNat:Int)=45)then some (.inr (.inr (())))else J (ab .i64 (D+1))<|some (.inl (F,L,(D+1),()))else bif decide (122<(b.toNat:Int))then bif !decide ((b.toNat:Int)=45)then some (.inr (.inr (())))else J (ab .i64 (D+1))<|some (.inl (F,L,(D+1),()))else J (ab .i64 (D+1))<|some (.inl (F,L,(D+1),()));bif decide (D<L)then(ag F D).bind λb=>bif decide ((b.toNat:Int)<48)then M b else bif decide (57<(b.toNat:Int))then M b else J (ab .i64 (D+1))<|some (.inl (F,L,(D+1),()))else some (.inr (.inl (F,())))
def J7(s:aa):bX:=bif decide (s=[])then some false else bif decide (8<(s.length:Int))then some false else(ae Dp (s,(s.length:Int),0,())).bind λo=>match o with|.inl (D,_)=>(tE D).bind λJ=>bif !J then some true else bif decide ((D.length:Int)=1)then some true else(ag D 0).bind λF=>some (!decide ((F.toNat:Int)=48))|.inr (_)=>some false
def Du:Lp (ak×kW) oD:=λ(F,L,D,_)=>bif decide (D<L)then(ag F D).bind λN=>(J7 N).bind λM=>bif !M then some (.inr (.inr (())))else J (ab .i64 (D+1))<|some (.inl (F,L,(D+1),()))else some (.inr (.inl (())))
def DT(s:aa):bX:=(strings_Split s gB).bind λsplit=>bif decide (4<(split.length:Int))then some false else(ae Du (split,(split.length:Int),0,())).bind λo=>match o with|.inl (_)=>some true|.inr (_)=>some false
def tp:Lp (Int×Int×Int×Bt) (Int×ti⊕Unit):=λ(F,L,M,D,N,O,U,Y,_)=>bif decide (D<3)then if D=((2:Nat):Int)then bif decide (M<0)then some (.inr (.inr (())))else bif decide (999999<M)then some (.inr (.inr (())))else J (ab .i64 (D+1))<|some (.inl (F,L,M,(D+1),N,O,U,Y,()))else if D=((1:Nat):Int)then bif decide (L<0)then some (.inr (.inr (())))else bif decide (999999<L)then some (.inr (.inr (())))else J (ab .i64 (D+1))<|some (.inl (F,L,M,(D+1),N,O,U,Y,()))else if D=((0:Nat):Int)then bif decide (F<0)then some (.inr (.inr (())))else bif decide (999999<F)then some (.inr (.inr (())))else J (ab .i64 (D+1))<|some (.inl (F,L,M,(D+1),N,O,U,Y,()))else none else some (.inr (.inl (N,O,U,Y,())))
def yz(v:gL):bX:=(ae tp (v.1.1,v.1.2.1,v.1.2.2,0,v.1.1,v.1.2.1,v.1.2.2,v.2,())).bind λo=>match o with|.inl (M,J,L,D,_)=>bif decide (D=[])then some true else(DT D).bind λF=>some F|.inr (_)=>some false
def IU(v:gL):sS:=(yz v).bind λM=>bif !M then some []else(strconv_Itoa v.1.1).bind λD=>J (D.length+gB.length<=9223372036854775807)<|(strconv_Itoa v.1.2.1).bind λF=>J ((D++gB).length+F.length<=9223372036854775807)<|J (((D++gB)++F).length+gB.length<=9223372036854775807)<|(strconv_Itoa v.1.2.2).bind λL=>J ((((D++gB)++F)++gB).length+L.length<=9223372036854775807)<|bif !decide (v.2=[])then J (oj.length+v.2.length<=9223372036854775807)<|J (((((D++gB)++F)++gB)++L).length+(oj++v.2).length<=9223372036854775807)<|some (((((D++gB)++F)++gB)++L)++(oj++v.2))else some ((((D++gB)++F)++gB)++L)
def EM(op:Int):sS:=bif decide (op=1)then some ads else bif decide (op=2)then some ac3 else bif decide (op=3)then some ac4 else bif decide (op=4)then some ac1 else bif decide (op=5)then some acv else bif decide (op=6)then some acu else bif decide (op=7)then some ac0 else bif decide (op=8)then some kN else some ac2
def D7:Lp (aa×Int×NF) (aa×Int×NF):=λ(F,L,D,M)=>bif decide (D<(F.length:Int))then(ag F D).bind λb=>bif !decide ((b.toNat:Int)=35)then J (ab .i64 (D+1))<|some (.inl (F,L,(D+1),M))else some (.inr (F,L,D,M))else some (.inr (F,L,D,M))
def zj:Lp (aa×NG) (aa×NG):=λ(F,M,L,O,D,N)=>bif decide (D<L)then(ag F D).bind λU=>bif !decide ((U.toNat:Int)=32)then(ag F D).bind λY=>bif !decide ((Y.toNat:Int)=9)then J (ab .i64 (D+1))<|some (.inl (F,M,L,O,(D+1),N))else some (.inr (F,M,L,O,D,N))else some (.inr (F,M,L,O,D,N))else some (.inr (F,M,L,O,D,N))
def zi:Lp (aa×Int×NG) (aa×NG⊕pQ):=λ(L,F,O,U,M,D,N)=>bif decide (D<M)then(ag L D).bind λY=>bif decide ((Y.toNat:Int)<33)then J (ab .i64 (D+1))<|some (.inr (.inr (0,1,F,(D+1),())))else(ag L D).bind λZ=>bif decide (126<(Z.toNat:Int))then J (ab .i64 (D+1))<|some (.inr (.inr (0,1,F,(D+1),())))else J (ab .i64 (D+1))<|some (.inl (L,F,O,U,M,(D+1),N))else some (.inr (.inl (L,F,O,U,M,N)))
def rI:Lp (aa×Int×Br) (O9⊕pQ):=λ(N,Z,U,D,O)=>bif decide (D<U)then(ag N D).bind λa1=>bif decide ((a1.toNat:Int)=32)then J (ab .i64 (D+1))<|some (.inl (N,Z,U,(D+1),O))else(ag N D).bind λa6=>bif decide ((a6.toNat:Int)=9)then J (ab .i64 (D+1))<|some (.inl (N,Z,U,(D+1),O))else(ae zj (N,Z,U,D,D,O)).bind λ(cc,ah,b8,F,an,bx,b0,b1,b2,b7,ar,a7)=>bif decide (20<=(ar.length:Int))then J (ab .i64 (F+1))<|some (.inr (.inr (0,2,ah,(F+1),())))else J (ab .i64 (an-F))<|bif decide (80<(an-F))then J (ab .i64 (F+1))<|some (.inr (.inr (0,2,ah,(F+1),())))else(ae zi (cc,ah,b8,F,an,F,bx,b0,b1,b2,b7,ar,a7)).bind λo=>match o with|.inl (Y,a8,ca,L,M,bb,b3,b4,b5,b6,az,aE,_)=>J (0<=L/\L<=M/\M<=Y.length)<|J (az.length+([((Y.take M.toNat).drop L.toNat)]:ak).length<=1000000000)<|J (ab .i64 (L+1))<|J (aE.length+([(L+1)]:aM).length<=1000000000)<|some (.inl (Y,a8,ca,M,bb,b3,b4,b5,b6,(az++([((Y.take M.toNat).drop L.toNat)]:ak)),(aE++([(L+1)]:aM)),()))|.inr bp=>some (.inr (.inr bp))else some (.inr (.inl (O)))
def zO(x:aa)(D:Int):Option (Ia×jQ):=(ae D7 (x,D,0,0,0,0,0,D,())).bind λ(a6,M,a1,O,ah,an,ar,aE,_)=>(ae rI (a6,M,a1,0,O,ah,an,ar,aE,[],[],())).bind λF=>match F with|.inl (a7,a8,bb,bp,az,J,L,_)=>some ((az,J,L),(0,0,0))|.inr (N,U,Y,Z,_)=>some ((N,[],[]),(U,Y,Z))
def Ds:Lp (aa×Int×UQ) (aa×Int×UQ):=λ(F,M,N,L,D,U,Y,Z,O,_)=>bif decide (D<(F.length:Int))then(ag F D).bind λb=>bif !decide ((b.toNat:Int)=10)then J (ab .i64 (D+1))<|some (.inl (F,M,N,L,(D+1),U,Y,Z,O,()))else some (.inr (F,M,N,L,D,U,Y,Z,O,()))else some (.inr (F,M,N,L,D,U,Y,Z,O,()))
def vR:Lp (aa×UQ) (NN⊕kt):=λ(Y,a1,no,at_,ar,az,aE,U,_)=>bif decide (at_<(Y.length:Int))then(ae Ds (Y,a1,no,at_,at_,ar,az,aE,U,())).bind λ(L,N,F,M,D,Z,ah,an,O,_)=>bif decide (N<F)then some (.inr (.inr (2,F,0,())))else J (0<=M/\M<=D/\D<=L.length)<|(zO ((L.take D.toNat).drop M.toNat) F).bind λsplit=>bif !decide (split.2.1=0)then some (.inr (.inr (split.2.1,split.2.2.1,split.2.2.2,())))else bif decide (0<(split.1.2.1.length:Int))then J (O.length+([split.1]:gr).length<=1000000000)<|J (ab .i64 (D+1))<|J (ab .i64 (F+1))<|some (.inl (L,N,(F+1),(D+1),Z,ah,an,(O++([split.1]:gr)),()))else J (ab .i64 (D+1))<|J (ab .i64 (F+1))<|some (.inl (L,N,(F+1),(D+1),Z,ah,an,O,()))else some (.inr (.inl (ar,az,aE,U,())))
def DL(s:aa)(D:Int):NJ:=(ae vR (s,D,1,0,0,0,0,[],())).bind λo=>match o with|.inl (N,O,U,F,_)=>some (F,(0,0,0))|.inr (J,L,M,_)=>some ([],(J,L,M))
def zZ(s:aa):NJ:=bif decide (20000<(s.length:Int))then some ([],(2,0,0))else(DL s 800).bind λD=>some (D.1,D.2)
def dJ(o:c7):Option (Bool×c7):=some (decide (o.2.2.1=0),o)
def jz(o:c7):NK:=(dJ o).bind λaH=>bif !aH.1 then some ([],aH.2)else bif decide ((aH.2.1.2.1.length:Int)<=aH.2.2.1)then some ([],(aH.2.1,aH.2.2.1,1,aH.2.1.1,0))else J (ab .i64 (aH.2.2.1+1))<|J (ab .i64 ((aH.2.2.1+1)-1))<|(ag aH.2.1.2.1 ((aH.2.2.1+1)-1)).bind λD=>some (D,(aH.2.1,(aH.2.2.1+1),aH.2.2.2))
def fb(code:Int)(o:c7):Option c7:=bif decide (o.2.2.1=0)then bif decide (0<o.2.1)then J (ab .i64 (o.2.1-1))<|(ag o.1.2.2 (o.2.1-1)).bind λD=>some (o.1,o.2.1,code,o.1.1,D)else some (o.1,o.2.1,code,o.1.1,0)else some o
def fy(n F:Int)(o:c7):Option c7:=(dJ o).bind λaH=>bif aH.1 then bif decide (F<=n)then(fb 2 aH.2).bind λD=>some D else some aH.2 else some aH.2
def Jg:adQ:=λ(i,F,D,L,M,N,O,_)=>bif decide (i<(D.length:Int))then J (0<=i/\i<D.length)<|(D[i.toNat]?).bind λy=>J (F.length+([y.1]:ak).length<=1000000000)<|J (ab .i64 (i+1))<|some (.inl ((i+1),(F++([y.1]:ak)),D,L,M,N,O,()))else some (.inr (F,D,L,M,N,O,()))
def Jw(l:jv)(D:aT)(F:br)(J:gf)(L:br):Option (ak×lX):=(ae Jg (0,[],l,D,F,J,L,())).bind λ(Z,M,N,O,U,Y,_)=>some (Z,M,N,O,U,Y)
def yW:Lp mD oD:=λ(L,D,_)=>let M:UInt8->Option (mD⊕oD):=λF=>bif decide (48<=(F.toNat:Int))then bif decide ((F.toNat:Int)<=57)then J (ab .i64 (D+1))<|some (.inl (L,(D+1),()))else bif !(decide ((F.toNat:Int)=45))then some (.inr (.inr (())))else J (ab .i64 (D+1))<|some (.inl (L,(D+1),()))else bif !(decide ((F.toNat:Int)=45))then some (.inr (.inr (())))else J (ab .i64 (D+1))<|some (.inl (L,(D+1),()));bif decide (D<(L.length:Int))then(ag L D).bind λF=>bif decide (97<=(F.toNat:Int))then bif decide ((F.toNat:Int)<=122)then J (ab .i64 (D+1))<|some (.inl (L,(D+1),()))else M F else M F else some (.inr (.inl (())))
def zh(s:aa):bX:=bif decide (20<(s.length:Int))then some false else bif decide (0<(s.length:Int))then(ag s 0).bind λb=>bif decide ((b.toNat:Int)<97)then some false else(ag s 0).bind λD=>bif decide (122<(D.toNat:Int))then some false else(ae yW (s,0,())).bind λo=>match o with|.inl (_)=>some true|.inr (_)=>some false else(ae yW (s,0,())).bind λF=>match F with|.inl (_)=>some true|.inr (_)=>some false
def wj(s:aa):bX:=bif decide (0<(s.length:Int))then(zh s).bind λD=>bif D then J (ab .i64 ((s.length:Int)-1))<|(ag s ((s.length:Int)-1)).bind λb=>some (!decide ((b.toNat:Int)=45))else some false else some false
def DI:Lp mD (p6⊕gw):=λ(D,i,_)=>bif decide (i<(D.length:Int))then(ag D i).bind λb=>bif decide ((b.toNat:Int)=47)then some (.inr (.inr (i,())))else J (ab .i64 (i+1))<|some (.inl (D,(i+1),()))else some (.inr (.inl (D,())))
def zu(s:aa):bU:=(ae DI (s,0,())).bind λo=>match o with|.inl (D,_)=>some (D.length:Int)|.inr (F,_)=>some F
def Eu(s:aa):bX:=(zu s).bind λD=>bif decide (D<(s.length:Int))then(ag s 0).bind λb=>bif decide ((b.toNat:Int)=64)then J (0<=(1:Int)/\(1:Int)<=D/\D<=s.length)<|(wj ((s.take D.toNat).drop (1:Int).toNat)).bind λF=>some F else some false else some false
def wk(s:aa):bX:=(Eu s).bind λM=>bif M then(zu s).bind λD=>J (ab .i64 (D+1))<|J (0<=(D+1)/\(D+1)<=(s.length:Int)/\(s.length:Int)<=s.length)<|(wj ((s.take (s.length:Int).toNat).drop (D+1).toNat)).bind λF=>some F else(wj s).bind λL=>some L
def zN:Lp (aa×oN) (aa×Int×lK):=λ(D,M,F,i,L,_)=>bif decide (i<(D.length:Int))then(ag D i).bind λb=>bif decide ((b.toNat:Int)=M)then J (0<=F/\F<=i/\i<=D.length)<|J (L.length+([((D.take i.toNat).drop F.toNat)]:ak).length<=1000000000)<|J (ab .i64 (i+1))<|J (ab .i64 (i+1))<|some (.inl (D,M,(i+1),(i+1),(L++([((D.take i.toNat).drop F.toNat)]:ak)),()))else J (ab .i64 (i+1))<|some (.inl (D,M,F,(i+1),L,()))else some (.inr (D,F,L,()))
def qy(s:aa)(c:Int):Bh:=(ae zN (s,c,0,0,[],())).bind λ(D,F,L,_)=>J (0<=F/\F<=(D.length:Int)/\(D.length:Int)<=D.length)<|J (L.length+([((D.take (D.length:Int).toNat).drop F.toNat)]:ak).length<=1000000000)<|some (L++([((D.take (D.length:Int).toNat).drop F.toNat)]:ak))
def vY:Lp (aa×kW) Bi:=λ(L,F,D,_)=>bif decide (D<(L.length:Int))then(ag L D).bind λN=>bif decide ((N.toNat:Int)<48)then some (.inr (.inr (0,())))else(ag L D).bind λO=>bif decide (57<(O.toNat:Int))then some (.inr (.inr (0,())))else J (ab .i64 (10*F))<|(ag L D).bind λM=>J (ab .i64 ((10*F)+(av4 .i64 (M.toNat:Int))))<|J (ab .i64 (((10*F)+(av4 .i64 (M.toNat:Int)))-48))<|J (ab .i64 (D+1))<|some (.inl (L,(((10*F)+(av4 .i64 (M.toNat:Int)))-48),(D+1),()))else some (.inr (.inl (F,())))
def oZ(w:aa):sQ:=bif decide ((w.length:Int)<1)then some (0,false)else bif decide (9<(w.length:Int))then some (0,false)else bif decide (1<(w.length:Int))then(ag w 0).bind λb=>bif decide ((b.toNat:Int)=48)then some (0,false)else(ae vY (w,0,0,())).bind λo=>match o with|.inl (D,_)=>some (D,true)|.inr (L,_)=>some (L,false)else(ae vY (w,0,0,())).bind λJ=>match J with|.inl (F,_)=>some (F,true)|.inr (M,_)=>some (M,false)
def zw(s:aa):sQ:=(oZ s).bind λD=>bif D.2 then some (D.1,decide ((s.length:Int)<=6))else some (D.1,false)
def y7:Lp mD oD:=λ(D,i,_)=>bif decide (i<(D.length:Int))then(ag D i).bind λb=>bif decide ((b.toNat:Int)<48)then some (.inr (.inr (())))else(ag D i).bind λF=>bif decide (57<(F.toNat:Int))then some (.inr (.inr (())))else J (ab .i64 (i+1))<|some (.inl (D,(i+1),()))else some (.inr (.inl (())))
def zx(s:aa):bX:=(ae y7 (s,0,())).bind λo=>match o with|.inl (_)=>some true|.inr (_)=>some false
def Ev:Lp mD oD:=λ(L,D,_)=>let M:UInt8->Option (mD⊕oD):=λF=>bif decide (97<=(F.toNat:Int))then bif decide ((F.toNat:Int)<=122)then J (ab .i64 (D+1))<|some (.inl (L,(D+1),()))else bif !(decide ((F.toNat:Int)=45))then some (.inr (.inr (())))else J (ab .i64 (D+1))<|some (.inl (L,(D+1),()))else bif !(decide ((F.toNat:Int)=45))then some (.inr (.inr (())))else J (ab .i64 (D+1))<|some (.inl (L,(D+1),()));bif decide (D<(L.length:Int))then(ag L D).bind λF=>bif decide (48<=(F.toNat:Int))then bif decide ((F.toNat:Int)<=57)then J (ab .i64 (D+1))<|some (.inl (L,(D+1),()))else M F else M F else some (.inr (.inl (())))
def LG(s:aa):bX:=let D:bX:=(ae Ev (s,0,())).bind λo=>match o with|.inl (_)=>some true|.inr (_)=>some false;bif decide (s=[])then some false else bif decide (8<(s.length:Int))then some false else bif decide (1<(s.length:Int))then(ag s 0).bind λb=>bif decide ((b.toNat:Int)=48)then(zx s).bind λF=>bif F then some false else D else D else D
def D5:Lp (aa×pQ) (aa×pQ):=λ(F,D,L,M,N,_)=>bif decide (D<(F.length:Int))then(ag F D).bind λb=>bif !decide ((b.toNat:Int)=45)then J (ab .i64 (D+1))<|some (.inl (F,(D+1),L,M,N,()))else some (.inr (F,D,L,M,N,()))else some (.inr (F,D,L,M,N,()))
def v7:Lp (Int×Int×Int×Int×oN) (Int×Int×Int×oN⊕kt):=λ(D,L,M,N,O,U,Y,F,_)=>bif decide (D<(F.length:Int))then(ag F D).bind λah=>(LG ah).bind λZ=>bif !Z then some (.inr (.inr (0,0,0,())))else J (ab .i64 (D+1))<|some (.inl ((D+1),L,M,N,O,U,Y,F,()))else some (.inr (.inl (L,M,N,O,U,Y,F,())))
def rP(x:aa):Option (pP×Bool):=(ae D5 (x,0,0,0,0,())).bind λ(F,D,Y,Z,ah,_)=>J (0<=(0:Int)/\(0:Int)<=D/\D<=F.length)<|(qy ((F.take D.toNat).drop (0:Int).toNat) 46).bind λL=>bif !decide ((L.length:Int)=3)then some ((0,0,0,[]),false)else(ag L 0).bind λa8=>(zw a8).bind λM=>(ag L 1).bind λbb=>(zw bb).bind λN=>(ag L 2).bind λbp=>(zw bp).bind λO=>bif !M.2 then some ((0,0,0,[]),false)else bif !N.2 then some ((0,0,0,[]),false)else bif !O.2 then some ((0,0,0,[]),false)else bif decide (D<(F.length:Int))then J (ab .i64 (D+1))<|J (0<=(D+1)/\(D+1)<=(F.length:Int)/\(F.length:Int)<=F.length)<|(qy ((F.take (F.length:Int).toNat).drop (D+1).toNat) 46).bind λU=>bif decide (4<(U.length:Int))then some ((0,0,0,[]),false)else(ae v7 (0,Y,Z,ah,M.1,N.1,O.1,U,())).bind λo=>match o with|.inl (b7,b8,ca,b5,b6,bx,b0,_)=>some ((b5,b6,bx,b0),true)|.inr (ar,az,aE,_)=>some ((ar,az,aE,[]),false)else bif decide (4<0)then some ((0,0,0,[]),false)else(ae v7 (0,Y,Z,ah,M.1,N.1,O.1,[],())).bind λan=>match an with|.inl (cc,cd,cg,b1,b2,b3,b4,_)=>some ((b1,b2,b3,b4),true)|.inr (a1,a6,a7,_)=>some ((a1,a6,a7,[]),false)
def Sc(op:Int):sS:=(ag ([ac2,ads,ac3,ac4,ac1,acv,acu,ac0,kN]:ak) op).bind λD=>some D
def zM:Lp (aa×Int×pQ) (aa×Int×pQ):=λ(F,D,L)=>bif decide (D<(F.length:Int))then(ag F D).bind λb=>bif decide ((b.toNat:Int)<48)then J (ab .i64 (D+1))<|some (.inl (F,(D+1),L))else(ag F D).bind λM=>bif decide (57<(M.toNat:Int))then J (ab .i64 (D+1))<|some (.inl (F,(D+1),L))else some (.inr (F,D,L))else some (.inr (F,D,L))
def E3:Lp (aa×NF) (pQ⊕Bool×Int×oN):=λ(D,F,op,M,N,O,U,_)=>bif decide (op<8)then J (0<=(0:Int)/\(0:Int)<=F/\F<=D.length)<|(Sc op).bind λY=>bif decide (((D.take F.toNat).drop (0:Int).toNat)=Y)then J (0<=F/\F<=(D.length:Int)/\(D.length:Int)<=D.length)<|(rP ((D.take (D.length:Int).toNat).drop F.toNat)).bind λL=>some (.inr (.inr (L.2,op,L.1.1,L.1.2.1,L.1.2.2.1,L.1.2.2.2,())))else J (ab .i64 (op+1))<|some (.inl (D,F,(op+1),M,N,O,U,()))else some (.inr (.inl (M,N,O,U,())))
def L5(s:aa):Option ((Int×pP)×Bool):=bif decide (s=kN)then some ((8,0,0,0,[]),true)else(ae zM (s,0,0,0,0,0,())).bind λ(F,D,Z,ah,J,L,_)=>(ae E3 (F,D,0,Z,ah,J,L,())).bind λo=>match o with|.inl (ar,az,aE,a1,_)=>some ((0,0,0,0,[]),false)|.inr (an,M,N,O,U,Y,_)=>some ((M,N,O,U,Y),an)
def D4:Lp (ak×Int×ak×Int×Ic×k7×Unit) (ak×Int×Ic×k7×Unit⊕Unit):=λ(M,L,m,k,F,N,_)=>bif decide (k<(m.length:Int))then(ag m k).bind λO=>(L5 O).bind λD=>bif !D.2 then some (.inr (.inr (())))else J (F.length+([D.1]:Ic).length<=1000000000)<|J (ab .i64 (k+1))<|some (.inl (M,L,m,(k+1),(F++([D.1]:Ic)),N,()))else some (.inr (.inl (M,L,F,N,())))
def D3:Lp (ak×Int×k7×Unit) (k7×Unit⊕Unit):=λ(l,i,M,_)=>bif decide (i<(l.length:Int))then(ag l i).bind λU=>(qy U 44).bind λD=>bif decide (4<(D.length:Int))then some (.inr (.inr (())))else(ae D4 (l,i,D,0,[],M,())).bind λo=>match o with|.inl (O,F,L,N,_)=>J (N.length+([L]:k7).length<=1000000000)<|J (ab .i64 (F+1))<|some (.inl (O,(F+1),(N++([L]:k7)),()))|.inr (_)=>some (.inr (.inr (())))else some (.inr (.inl (M,())))
def E2(s:aa):Option (k7×Bool):=(qy s 124).bind λD=>bif decide (80<(s.length:Int))then some ([],false)else bif decide (4<(D.length:Int))then some ([],false)else(ae D3 (D,0,[],())).bind λF=>match F with|.inl (J,_)=>some (J,true)|.inr (_)=>some ([],false)
def oX:Lp (aa×Bj) (aa×lV⊕Unit):=λ(D,i,L,_)=>let M:Option (aa×Bj⊕aa×lV⊕Unit):=(ag D i).bind λF=>J (ab .u8 ((F.toNat:Int)-97))<|J (0<=((F.toNat:Int)-97)/\((F.toNat:Int)-97)<L.length)<|(L[((F.toNat:Int)-97).toNat]?).bind λq=>J (ab .i64 (i+1))<|some (.inl (D,(i+1),(L.set ((F.toNat:Int)-97).toNat 1),()));bif decide (i<(D.length:Int))then(ag D i).bind λb=>bif decide ((b.toNat:Int)<97)then some (.inr (.inr (())))else(ag D i).bind λN=>bif decide (122<(N.toNat:Int))then some (.inr (.inr (())))else bif decide (0<i)then J (ab .i64 (i-1))<|(ag D (i-1)).bind λO=>(ag D i).bind λU=>bif decide ((U.toNat:Int)<=(O.toNat:Int))then some (.inr (.inr (())))else M else M else some (.inr (.inl (D,L,())))
def zt(s:aa):adU:=J ((26:Int)=(26:Int)/\0<=(26:Int)/\(26:Int)<=1000000000)<|bif decide (s=oj)then some ((av5 (26:Int).toNat 0),true)else(ae oX (s,0,(av5 (26:Int).toNat 0),())).bind λo=>match o with|.inl (F,D,_)=>some (D,decide (0<(F.length:Int)))|.inr (_)=>some ([],false)
def Ew:Lp (aa×kW) Bi:=λ(F,D,i,_)=>let L:UInt8->Option (aa×kW⊕Bi):=λb=>bif decide (97<=(av4 .u64 (b.toNat:Int)))then bif decide ((av4 .u64 (b.toNat:Int))<=102)then J (ab .i64 (i+1))<|some (.inl (F,(av4 .u64 ((av4 .u64 ((av4 .u64 (D*16))+(av4 .u64 (b.toNat:Int))))-87)),(i+1),()))else some (.inr (.inr (0,())))else some (.inr (.inr (0,())));bif decide (i<16)then(ag F i).bind λb=>bif decide (48<=(av4 .u64 (b.toNat:Int)))then bif decide ((av4 .u64 (b.toNat:Int))<=57)then J (ab .i64 (i+1))<|some (.inl (F,(av4 .u64 ((av4 .u64 ((av4 .u64 (D*16))+(av4 .u64 (b.toNat:Int))))-48)),(i+1),()))else L b else L b else some (.inr (.inl (D,())))
def nT(s:aa):sQ:=bif !decide ((s.length:Int)=16)then some (0,false)else(ae Ew (s,0,0,())).bind λo=>match o with|.inl (D,_)=>some (D,true)|.inr (F,_)=>some (F,false)
def zW(s:aa):bX:=bif decide (0<(s.length:Int))then J (ab .i64 ((s.length:Int)-1))<|(ag s ((s.length:Int)-1)).bind λb=>some (decide ((b.toNat:Int)=42))else some false
def zX(s:aa):bX:=(zW s).bind λO=>bif !O then(wk s).bind λF=>some F else J (ab .i64 ((s.length:Int)-1))<|J (0<=(0:Int)/\(0:Int)<=((s.length:Int)-1)/\((s.length:Int)-1)<=s.length)<|(Eu ((s.take ((s.length:Int)-1).toNat).drop (0:Int).toNat)).bind λN=>bif N then(zu ((s.take ((s.length:Int)-1).toNat).drop (0:Int).toNat)).bind λD=>J (ab .i64 (D+1))<|J (0<=(D+1)/\(D+1)<=(((s.take ((s.length:Int)-1).toNat).drop (0:Int).toNat).length:Int)/\(((s.take ((s.length:Int)-1).toNat).drop (0:Int).toNat).length:Int)<=((s.take ((s.length:Int)-1).toNat).drop (0:Int).toNat).length)<|(zh ((((s.take ((s.length:Int)-1).toNat).drop (0:Int).toNat).take (((s.take ((s.length:Int)-1).toNat).drop (0:Int).toNat).length:Int).toNat).drop (D+1).toNat)).bind λL=>some L else(zh ((s.take ((s.length:Int)-1).toNat).drop (0:Int).toNat)).bind λM=>some M
def iL(w:aa)(kind:Int):bX:=bif decide (kind=1)then(wj w).bind λN=>some N else bif decide (kind=2)then(wk w).bind λD=>some D else bif decide (kind=3)then(rP w).bind λL=>some L.2 else bif decide (kind=4)then(E2 w).bind λM=>some M.2 else bif decide (kind=5)then(zt w).bind λJ=>some J.2 else bif decide (kind=6)then(nT w).bind λbits=>some bits.2 else bif decide (kind=7)then(zX w).bind λF=>some F else some false
def eV(kind:Int)(o:c7):NK:=(jz o).bind λD=>(dJ D.2).bind λaH=>bif aH.1 then(iL D.1 kind).bind λis=>bif !is then(fb 1 aH.2).bind λF=>some (D.1,F)else some (D.1,aH.2)else some (D.1,aH.2)
def wF:Lp (ak×mD) oD:=λ(D,F,i,_)=>bif decide (i<(D.length:Int))then(ag D i).bind λL=>bif decide (L=F)then some (.inr (.inr (())))else J (ab .i64 (i+1))<|some (.inl (D,F,(i+1),()))else some (.inr (.inl (())))
def nY(l:ak)(s:aa):bX:=(ae wF (l,s,0,())).bind λo=>match o with|.inl (_)=>some false|.inr (_)=>some true
def kA(kind:Int)(l:ak)(o:c7):NK:=(eV kind o).bind λD=>(dJ D.2).bind λaH=>bif aH.1 then(nY l D.1).bind λJ=>bif J then(fb 3 aH.2).bind λF=>some (D.1,F)else some (D.1,aH.2)else some (D.1,aH.2)
def Fs(b:Int):bU:=let D:bU:=bif decide ((bits .and .u64 (b.fdiv (2^(min (52:Int).toNat (av9 .u64)))) 2047)=2047)then some 6 else bif decide ((bits .and .u64 (b.fdiv (2^(min (52:Int).toNat (av9 .u64)))) 2047)=0)then bif decide ((bits .and .u64 b 4503599627370495)=0)then bif decide ((b.fdiv (2^(min (63:Int).toNat (av9 .u64))))=1)then some 3 else bif decide ((bits .and .u64 (b.fdiv (2^(min (52:Int).toNat (av9 .u64)))) 2047)=0)then bif decide ((bits .and .u64 b 4503599627370495)=0)then some 4 else bif decide ((b.fdiv (2^(min (63:Int).toNat (av9 .u64))))=1)then some 2 else some 5 else bif decide ((b.fdiv (2^(min (63:Int).toNat (av9 .u64))))=1)then some 2 else some 5 else bif decide ((bits .and .u64 (b.fdiv (2^(min (52:Int).toNat (av9 .u64)))) 2047)=0)then bif decide ((bits .and .u64 b 4503599627370495)=0)then some 4 else bif decide ((b.fdiv (2^(min (63:Int).toNat (av9 .u64))))=1)then some 2 else some 5 else bif decide ((b.fdiv (2^(min (63:Int).toNat (av9 .u64))))=1)then some 2 else some 5 else bif decide ((bits .and .u64 (b.fdiv (2^(min (52:Int).toNat (av9 .u64)))) 2047)=0)then bif decide ((bits .and .u64 b 4503599627370495)=0)then some 4 else bif decide ((b.fdiv (2^(min (63:Int).toNat (av9 .u64))))=1)then some 2 else some 5 else bif decide ((b.fdiv (2^(min (63:Int).toNat (av9 .u64))))=1)then some 2 else some 5;J (0<=(52:Int))<|J (0<=(63:Int))<|bif decide ((bits .and .u64 (b.fdiv (2^(min (52:Int).toNat (av9 .u64)))) 2047)=2047)then bif !decide ((bits .and .u64 b 4503599627370495)=0)then some 0 else bif decide ((bits .and .u64 (b.fdiv (2^(min (52:Int).toNat (av9 .u64)))) 2047)=2047)then bif decide ((b.fdiv (2^(min (63:Int).toNat (av9 .u64))))=1)then some 1 else D else D else bif decide ((bits .and .u64 (b.fdiv (2^(min (52:Int).toNat (av9 .u64)))) 2047)=2047)then bif decide ((b.fdiv (2^(min (63:Int).toNat (av9 .u64))))=1)then some 1 else D else D
def zY(b:Int):sS:=(Fs b).bind λF=>bif decide (F=0)then some WU else(Ak b).bind λD=>some D
def lA(l:ak)(o:c7):NK:=(jz o).bind λD=>(dJ D.2).bind λaH=>bif aH.1 then(nY l D.1).bind λJ=>bif !J then(fb 1 aH.2).bind λF=>some (D.1,F)else some (D.1,aH.2)else some (D.1,aH.2)
def Jh:adQ:=λ(i,F,L,D,M,N,O,_)=>bif decide (i<(D.length:Int))then J (0<=i/\i<D.length)<|(D[i.toNat]?).bind λy=>J (F.length+([y.1]:ak).length<=1000000000)<|J (ab .i64 (i+1))<|some (.inl ((i+1),(F++([y.1]:ak)),L,D,M,N,O,()))else some (.inr (F,L,D,M,N,O,()))
def Jx(l:jv)(D:aT)(F:br)(J:gf)(L:br):Option (ak×lX):=(ae Jh (0,[],l,D,F,J,L,())).bind λ(Z,M,N,O,U,Y,_)=>some (Z,M,N,O,U,Y)
def ky(o:c7):Option (Bool×c7):=(dJ o).bind λaH=>bif aH.1 then some (decide (aH.2.2.1<(aH.2.1.2.1.length:Int)),aH.2)else some (false,aH.2)
def C1:Lp (aa×Bk) pO:=λ(F,i,D,L,M,N,O,_)=>bif decide (i<(D.length:Int))then(ag D i).bind λU=>bif decide (U.1=F)then some (.inr (.inr (i,())))else J (ab .i64 (i+1))<|some (.inl (F,(i+1),D,L,M,N,O,()))else some (.inr (.inl (())))
def vO(p:lX)(s:aa):bU:=(ae C1 (s,0,p.1,p.2.1,p.2.2.1,p.2.2.2.1,p.2.2.2.2,())).bind λo=>match o with|.inl (_)=>some (-1)|.inr (D,_)=>some D
def ll:Lp (aa×Cn) (aa×Cn):=λ(an,ar,M,O,U,Y,Z,ah,a8,bb,bp,bx,b0,b1,b2,_)=>let az:Bool×c7->aa×c7->Option (aa×Cn⊕aa×Cn):=λD F=>bif D.1 then(nY M F.1).bind λa7=>bif a7 then(fb 3 D.2).bind λN=>J (M.length+([F.1]:ak).length<=1000000000)<|some (.inl (an,ar,(M++([F.1]:ak)),O,U,Y,Z,ah,N.1.1,N.1.2.1,N.1.2.2,N.2.1,N.2.2.1,N.2.2.2.1,N.2.2.2.2,()))else J (M.length+([F.1]:ak).length<=1000000000)<|some (.inl (an,ar,(M++([F.1]:ak)),O,U,Y,Z,ah,D.2.1.1,D.2.1.2.1,D.2.1.2.2,D.2.2.1,D.2.2.2.1,D.2.2.2.2.1,D.2.2.2.2.2,()))else J (M.length+([F.1]:ak).length<=1000000000)<|some (.inl (an,ar,(M++([F.1]:ak)),O,U,Y,Z,ah,D.2.1.1,D.2.1.2.1,D.2.1.2.2,D.2.2.1,D.2.2.2.1,D.2.2.2.2.1,D.2.2.2.2.2,()));(ky ((a8,bb,bp),bx,b0,b1,b2)).bind λL=>bif L.1 then(eV 1 L.2).bind λF=>(dJ F.2).bind λaH=>bif aH.1 then(vO (O,U,Y,Z,ah) F.1).bind λb3=>bif decide (b3<0)then(fb 4 aH.2).bind λaE=>(dJ aE).bind λD=>az D F else(dJ aH.2).bind λa1=>az a1 F else(dJ aH.2).bind λa6=>az a6 F else some (.inr (an,ar,M,O,U,Y,Z,ah,L.2.1.1,L.2.1.2.1,L.2.1.2.2,L.2.2.1,L.2.2.2.1,L.2.2.2.2.1,L.2.2.2.2.2,()))
def QR(l:jv)(L:aT)(U:br)(Y:gf)(Z:br)(o:c7):UT:=(fy (L.length:Int) 16 o).bind λar=>(Jx l L U Y Z).bind λD=>(kA 7 D.1 ar).bind λO=>(lA ([iK,pj,im]:ak) O.2).bind λF=>(J (l.length=D.2.1.length)<|J (L.length=D.2.2.1.length)<|J (U.length=D.2.2.2.1.length)<|J (Y.length=D.2.2.2.2.1.length)<|J (Z.length=D.2.2.2.2.2.length)<|ae ll (O.1,F.1,[],D.2.1,D.2.2.1,D.2.2.2.1,D.2.2.2.2.1,D.2.2.2.2.2,F.2.1.1,F.2.1.2.1,F.2.1.2.2,F.2.2.1,F.2.2.2.1,F.2.2.2.2.1,F.2.2.2.2.2,())).bind λ(M,N,an,az,ah,aE,a1,a6,a7,a8,bb,bp,bx,b0,b1,_)=>J (ah.length+([(M,N,an)]:aT).length<=1000000000)<|some (az,(ah++([(M,N,an)]:aT)),aE,a1,a6,((a7,a8,bb),bp,bx,b0,b1))
def Ka:Lp (Int×ak×lW) (ak×lW):=λ(i,F,D,_)=>bif decide (i<(D.length:Int))then J (0<=i/\i<D.length)<|(D[i.toNat]?).bind λy=>J (F.length+([y.1]:ak).length<=1000000000)<|J (ab .i64 (i+1))<|some (.inl ((i+1),(F++([y.1]:ak)),D,()))else some (.inr (F,D,()))
def Er(l:br):Option (ak×br):=(ae Ka (0,[],l,())).bind λ(F,D,_)=>some (F,D)
def Ko:Lp (Int×ak×gf×Unit) (ak×gf×Unit):=λ(i,F,D,_)=>bif decide (i<(D.length:Int))then J (0<=i/\i<D.length)<|(D[i.toNat]?).bind λy=>J (F.length+([y.1]:ak).length<=1000000000)<|J (ab .i64 (i+1))<|some (.inl ((i+1),(F++([y.1]:ak)),D,()))else some (.inr (F,D,()))
def K8(l:gf):Option (ak×gf):=(ae Ko (0,[],l,())).bind λ(F,D,_)=>some (F,D)
def K7(kind:Int)(o:c7)(l:ak):Option (aa×c7×ak):=(eV kind o).bind λD=>(dJ D.2).bind λaH=>bif aH.1 then(nY l D.1).bind λJ=>bif J then(fb 3 aH.2).bind λF=>some (D.1,F,l)else some (D.1,aH.2,l)else some (D.1,aH.2,l)
def ln:Lp Cn Cn:=λ(N,M,O,U,Y,Z,ah,an,ar,az,aE,a1,a6,a7,_)=>(ky ((an,ar,az),aE,a1,a6,a7)).bind λD=>bif D.1 then(K7 6 D.2 M).bind λF=>J (M.length=F.2.2.length)<|(fy (F.2.2.length:Int) 4 F.2.1).bind λL=>J (F.2.2.length+([F.1]:ak).length<=1000000000)<|some (.inl (N,(F.2.2++([F.1]:ak)),O,U,Y,Z,ah,L.1.1,L.1.2.1,L.1.2.2,L.2.1,L.2.2.1,L.2.2.2.1,L.2.2.2.2,()))else some (.inr (N,M,O,U,Y,Z,ah,D.2.1.1,D.2.1.2.1,D.2.1.2.2,D.2.2.1,D.2.2.2.1,D.2.2.2.2.1,D.2.2.2.2.2,()))
def Q6(l:jv)(Z:aT)(ah:br)(F:gf)(an:br)(o:c7):UT:=(fy (F.length:Int) 16 o).bind λY=>(K8 F).bind λL=>(kA 2 L.1 Y).bind λM=>(eV 6 M.2).bind λD=>J (([D.1]:ak).length<=1000000000)<|(J (F.length=L.2.length)<|ae ln (M.1,([D.1]:ak),l,Z,ah,L.2,an,D.2.1.1,D.2.1.2.1,D.2.1.2.2,D.2.2.1,D.2.2.2.1,D.2.2.2.2.1,D.2.2.2.2.2,())).bind λ(N,U,ar,az,aE,O,a1,a6,a7,a8,bb,bp,bx,b0,_)=>J (O.length+([(N,U)]:gf).length<=1000000000)<|some (ar,az,aE,(O++([(N,U)]:gf)),a1,((a6,a7,a8),bb,bp,bx,b0))
def mO(Y:aa)(l:jv)(M:aT)(F:br)(N:gf)(L:br)(o:c7):UT:=bif decide (Y=qu)then(fy (l.length:Int) 8 o).bind λbp=>(Jw l M F N L).bind λD=>(kA 1 D.1 bp).bind λan=>(eV 6 an.2).bind λa7=>(nT a7.1).bind λbits=>(zY bits.1).bind λa8=>(lA ([jV,wC]:ak) a7.2).bind λaE=>J (l.length=D.2.1.length)<|J (D.2.1.length+([(an.1,a8,aE.1)]:jv).length<=1000000000)<|J (M.length=D.2.2.1.length)<|J (F.length=D.2.2.2.1.length)<|J (N.length=D.2.2.2.2.1.length)<|J (L.length=D.2.2.2.2.2.length)<|some ((D.2.1++([(an.1,a8,aE.1)]:jv)),D.2.2.1,D.2.2.2.1,D.2.2.2.2.1,D.2.2.2.2.2,aE.2)else bif decide (Y=qx)then(QR l M F N L o).bind λO=>some (O.1,O.2.1,O.2.2.1,O.2.2.2.1,O.2.2.2.2.1,O.2.2.2.2.2)else bif decide (Y=w8)then(fy (F.length:Int) 16 o).bind λbx=>(Er F).bind λZ=>(kA 2 Z.1 bx).bind λar=>J (F.length=Z.2.length)<|(eV 3 ar.2).bind λa1=>J (Z.2.length+([(ar.1,a1.1)]:br).length<=1000000000)<|some (l,M,(Z.2++([(ar.1,a1.1)]:br)),N,L,a1.2)else bif decide (Y=qD)then(Q6 l M F N L o).bind λU=>some (U.1,U.2.1,U.2.2.1,U.2.2.2.1,U.2.2.2.2.1,U.2.2.2.2.2)else bif decide (Y=wB)then(fy (L.length:Int) 8 o).bind λb0=>(Er L).bind λah=>(kA 1 ah.1 b0).bind λaz=>J (L.length=ah.2.length)<|(eV 5 az.2).bind λa6=>J (ah.2.length+([(az.1,a6.1)]:br).length<=1000000000)<|some (l,M,F,N,(ah.2++([(az.1,a6.1)]:br)),a6.2)else(fb 1 o).bind λbb=>some (l,M,F,N,L,bb)
def gM(o:c7):Option c7:=(ky o).bind λD=>bif D.1 then J (ab .i64 (D.2.2.1+1))<|(fb 1 (D.2.1,(D.2.2.1+1),D.2.2.2)).bind λF=>some F else some D.2
def kB:Lp (gr×Int×Int×Int×Bk) (gr×Int×Int×Bk⊕kt):=λ(D,i,an,ar,az,O,U,Y,Z,ah,_)=>bif decide (i<(D.length:Int))then(ag D i).bind λa8=>(jz (a8,0,0,0,0)).bind λL=>bif decide (0<i)then(mO L.1 O U Y Z ah L.2).bind λF=>(gM F.2.2.2.2.2).bind λaE=>(dJ aE).bind λaH=>bif !aH.1 then some (.inr (.inr (aH.2.2.2.1,aH.2.2.2.2.1,aH.2.2.2.2.2,())))else J (ab .i64 (i+1))<|some (.inl (D,(i+1),an,ar,az,F.1,F.2.1,F.2.2.1,F.2.2.2.1,F.2.2.2.2.1,()))else bif !decide (L.1=R8)then(fb 1 L.2).bind λa7=>(gM a7).bind λa1=>(dJ a1).bind λM=>bif !M.1 then some (.inr (.inr (M.2.2.2.1,M.2.2.2.2.1,M.2.2.2.2.2,())))else J (ab .i64 (i+1))<|some (.inl (D,(i+1),an,ar,az,O,U,Y,Z,ah,()))else(gM L.2).bind λa6=>(dJ a6).bind λN=>bif !N.1 then some (.inr (.inr (N.2.2.2.1,N.2.2.2.2.1,N.2.2.2.2.2,())))else J (ab .i64 (i+1))<|some (.inl (D,(i+1),an,ar,az,O,U,Y,Z,ah,()))else some (.inr (.inl (D,an,ar,az,O,U,Y,Z,ah,())))
def zK(text:aa):Option (lX×jQ):=(zZ text).bind λD=>bif !decide (D.2.1=0)then some (([],[],[],[],[]),D.2)else(ae kB (D.1,0,0,0,0,[],[],[],[],[],())).bind λo=>match o with|.inl (F,ar,ah,an,J,L,M,N,O,_)=>bif decide ((F.length:Int)=0)then some (([],[],[],[],[]),(1,0,0))else some ((J,L,M,N,O),(0,0,0))|.inr (U,Y,Z,_)=>some (([],[],[],[],[]),(U,Y,Z))
def Ep:Lp (br×mD) (Unit⊕p6):=λ(D,F,i,_)=>bif decide (i<(D.length:Int))then(ag D i).bind λL=>bif decide (L.1=F)then(ag D i).bind λM=>some (.inr (.inr (M.2,())))else J (ab .i64 (i+1))<|some (.inl (D,F,(i+1),()))else some (.inr (.inl (())))
def wE(l:br)(s:aa):q9:=(ae Ep (l,s,0,())).bind λo=>match o with|.inl (_)=>some ([],false)|.inr (D,_)=>some (D,true)
def Fq(x:ye)(name version:aa):bX:=bif decide (x.1=name)then some (decide (x.2.1=version))else some false
def nR:Lp (Int×NQ) NQ:=λ(D,a8,bb,N,O,bp,bx,F,L,Y,Z,ah,an,ar,b2,b3,b4,b5,b6,b7,b8,az,aE,U,a1,a6,a7,_)=>let b1:Bool->Bool×c7->Option (Int×NQ⊕NQ):=λb0 aH=>bif b0 then(fb 3 aH.2).bind λM=>J (ab .i64 (D+1))<|some (.inl ((D+1),a8,bb,N,O,bp,bx,F,L,Y,Z,ah,an,ar,M.1.1,M.1.2.1,M.1.2.2,M.2.1,M.2.2.1,M.2.2.2.1,M.2.2.2.2,az,aE,U,a1,a6,a7,()))else J (ab .i64 (D+1))<|some (.inl ((D+1),a8,bb,N,O,bp,bx,F,L,Y,Z,ah,an,ar,aH.2.1.1,aH.2.1.2.1,aH.2.1.2.2,aH.2.2.1,aH.2.2.2.1,aH.2.2.2.2.1,aH.2.2.2.2.2,az,aE,U,a1,a6,a7,()));bif decide (D<(((bif F then 0 else L.length+1):Nat):Int))then(dJ ((b2,b3,b4),b5,b6,b7,b8)).bind λaH=>bif aH.1 then only (!F)<|J (0<=D/\D<=(L.length:Int))<|bif decide (D=(L.length:Int))then only (!F)<|(Fq (Y,Z,ah,an,ar,az,aE,(bif U then[]else(a1++[(a6,a7)]))) N O).bind λb0=>b1 b0 aH else only (!F)<|(L[D.toNat]?).bind λy=>(Fq y N O).bind λca=>b1 ca aH else J (ab .i64 (D+1))<|some (.inl ((D+1),a8,bb,N,O,bp,bx,F,L,Y,Z,ah,an,ar,aH.2.1.1,aH.2.1.2.1,aH.2.1.2.2,aH.2.2.1,aH.2.2.2.1,aH.2.2.2.2.1,aH.2.2.2.2.2,az,aE,U,a1,a6,a7,()))else some (.inr (a8,bb,N,O,bp,bx,F,L,Y,Z,ah,an,ar,b2,b3,b4,b5,b6,b7,b8,az,aE,U,a1,a6,a7,()))
def E1(x:aa)(em:Bool)(l:Bm)(o b6 b7 b8:aa)(ca:Bool)(cd:c7)(b2 b3:aT)(b0:Bool)(b4:oP)(cx:aa)(b5:aT):Option (aa×Bool×Bm×aa×aa×aa×aa×Bool×c7×aT×aT×Bool×oP×aa×aT):=(fy (((bif em then 0 else l.length+1):Nat):Int) 60 cd).bind λb1=>(eV 2 b1).bind λbx=>(eV 3 bx.2).bind λF=>(ae nR (0,x,[],bx.1,F.1,[],[],em,l,o,b6,b7,b8,ca,F.2.1.1,F.2.1.2.1,F.2.1.2.2,F.2.2.1,F.2.2.2.1,F.2.2.2.2.1,F.2.2.2.2.2,b2,b3,b0,b4,cx,b5,())).bind λ(a8,c4,bb,bp,c5,c6,O,L,Y,Z,ah,an,ar,cc,cg,ch,cj,ck,cp,cw,az,aE,U,a1,a6,a7,_)=>(eV 6 ((cc,cg,ch),cj,ck,cp,cw)).bind λM=>(eV 5 M.2).bind λN=>(ky N.2).bind λD=>bif D.1 then(ag D.2.1.2.1 D.2.2.1).bind λc3=>bif decide (c3=Fl)then J (ab .i64 (D.2.2.1+1))<|J (L.length+2<=1000000000)<|some (a8,false,(bif O then[]else(L++[(Y,Z,ah,an,ar,az,aE,(bif U then[]else(a1++[(a6,a7)])))])),bb,bp,M.1,N.1,true,(D.2.1,(D.2.2.1+1),D.2.2.2),[],[],true,[],[],[])else J (L.length+2<=1000000000)<|some (a8,false,(bif O then[]else(L++[(Y,Z,ah,an,ar,az,aE,(bif U then[]else(a1++[(a6,a7)])))])),bb,bp,M.1,N.1,false,D.2,[],[],true,[],[],[])else J (L.length+2<=1000000000)<|some (a8,false,(bif O then[]else(L++[(Y,Z,ah,an,ar,az,aE,(bif U then[]else(a1++[(a6,a7)])))])),bb,bp,M.1,N.1,false,D.2,[],[],true,[],[],[])
def jR:Lp (Int×NM) NM:=λ(O,Z,ah,U,Y,L,a7,a8,ar,az,aE,a1,a6,_)=>let an:Bool×c7->aa×c7->Option (Int×NM⊕NM):=λD F=>bif D.1 then bif decide (O<=(L.length:Int))then(fb 2 D.2).bind λN=>J (L.length+([F.1]:ak).length<=1000000000)<|some (.inl (O,Z,ah,U,Y,(L++([F.1]:ak)),N.1.1,N.1.2.1,N.1.2.2,N.2.1,N.2.2.1,N.2.2.2.1,N.2.2.2.2,()))else J (L.length+([F.1]:ak).length<=1000000000)<|some (.inl (O,Z,ah,U,Y,(L++([F.1]:ak)),D.2.1.1,D.2.1.2.1,D.2.1.2.2,D.2.2.1,D.2.2.2.1,D.2.2.2.2.1,D.2.2.2.2.2,()))else J (L.length+([F.1]:ak).length<=1000000000)<|some (.inl (O,Z,ah,U,Y,(L++([F.1]:ak)),D.2.1.1,D.2.1.2.1,D.2.1.2.2,D.2.2.1,D.2.2.2.1,D.2.2.2.2.1,D.2.2.2.2.2,()));bif decide (0<O)then(ky ((a7,a8,ar),az,aE,a1,a6)).bind λM=>bif M.1 then(eV 1 M.2).bind λF=>(dJ F.2).bind λaH=>bif aH.1 then(nY L F.1).bind λb0=>bif b0 then(fb 3 aH.2).bind λbb=>(dJ bb).bind λD=>an D F else(dJ aH.2).bind λbp=>an bp F else(dJ aH.2).bind λbx=>an bx F else some (.inr (Z,ah,U,Y,L,M.2.1.1,M.2.1.2.1,M.2.1.2.2,M.2.2.1,M.2.2.2.1,M.2.2.2.2.1,M.2.2.2.2.2,()))else some (.inr (Z,ah,U,Y,L,a7,a8,ar,az,aE,a1,a6,()))
def fx(J:Int)(o:c7):Option (xu×c7):=(eV 2 o).bind λF=>(eV 4 F.2).bind λD=>(ae jR (J,[],[],F.1,D.1,[],D.2.1.1,D.2.1.2.1,D.2.1.2.2,D.2.2.1,D.2.2.2.1,D.2.2.2.2.1,D.2.2.2.2.2,())).bind λ(az,aE,L,M,ar,N,O,U,Y,Z,ah,an,_)=>some ((L,M,ar),((N,O,U),Y,Z,ah,an))
def nP:adV:=λ(x7,N,D,an,ar,az,aE,a1,a6,a7,a8,bb,Y,Z,L,M,O,ah,bx,b0,b1,b2,b3,b4,b5,_)=>let U:Bool×c7->Option (Int×aa×Int×rz⊕aa×rz):=λaH=>J (ab .i64 (D+1))<|some (.inl (x7,N,(D+1),an,ar,az,aE,a1,a6,a7,a8,bb,Y,Z,L,M,O,ah,aH.2.1.1,aH.2.1.2.1,aH.2.1.2.2,aH.2.2.1,aH.2.2.2.1,aH.2.2.2.2.1,aH.2.2.2.2.2,()));let bp:Bool×c7->Option (Int×aa×Int×rz⊕aa×rz):=λaH=>(fb 3 aH.2).bind λF=>J (ab .i64 (D+1))<|some (.inl (x7,N,(D+1),an,ar,az,aE,a1,a6,a7,a8,bb,Y,Z,L,M,O,ah,F.1.1,F.1.2.1,F.1.2.2,F.2.1,F.2.2.1,F.2.2.2.1,F.2.2.2.2,()));bif decide (D<=x7)then(dJ ((bx,b0,b1),b2,b3,b4,b5)).bind λaH=>bif aH.1 then only (!L)<|J (0<=D/\D<=(M.length:Int))<|bif decide (D=(M.length:Int))then only (!L)<|bif decide (O=N)then bp aH else U aH else only (!L)<|(M[D.toNat]?).bind λb6=>bif decide (b6.1=N)then bp aH else U aH else U aH else some (.inr (N,an,ar,az,aE,a1,a6,a7,a8,bb,Y,Z,L,M,O,ah,bx,b0,b1,b2,b3,b4,b5,()))
def Kb(x ck cp cw:aa)(cx:Bool)(Y:aa)(l N:aT)(em:Bool)(D:oP)(o:aa)(ah:aT)(F:c7):Bq:=let Z:c7->Bq:=λM=>only (!em)<|J (0<=((((bif em then 0 else D.length+1):Nat):Int)-1)/\((((bif em then 0 else D.length+1):Nat):Int)-1)<=(D.length:Int))<|bif decide (((((bif em then 0 else D.length+1):Nat):Int)-1)=(D.length:Int))then only (!em)<|(fx 4 M).bind λc5=>none else only (!em)<|(D[((((bif em then 0 else D.length+1):Nat):Int)-1).toNat]?).bind λy=>(fx 4 M).bind λc6=>none;let U:c7->Bq:=λO=>(fy (l.length:Int) 4 O).bind λaE=>(fx 0 aE).bind λa8=>J (l.length+([a8.1]:aT).length<=1000000000)<|none;J (ab .i64 ((((bif em then 0 else D.length+1):Nat):Int)-1))<|bif decide (Y=jg)then bif decide (0<(N.length:Int))then(fb 1 F).bind λO=>U O else bif decide (0<(((bif em then 0 else D.length+1):Nat):Int))then(fb 1 F).bind λaz=>U az else U F else bif decide (Y=kG)then bif decide (((((bif em then 0 else D.length+1):Nat):Int)-1)<0)then(fy (N.length:Int) 8 F).bind λa1=>(fx 4 a1).bind λbb=>J (N.length+([bb.1]:aT).length<=1000000000)<|none else only (!em)<|J (0<=((((bif em then 0 else D.length+1):Nat):Int)-1)/\((((bif em then 0 else D.length+1):Nat):Int)-1)<=(D.length:Int))<|bif decide (((((bif em then 0 else D.length+1):Nat):Int)-1)=(D.length:Int))then only (!em)<|(fy (ah.length:Int) 8 F).bind λM=>Z M else only (!em)<|(D[((((bif em then 0 else D.length+1):Nat):Int)-1).toNat]?).bind λc3=>(fy (c3.2.length:Int) 8 F).bind λa6=>Z a6 else bif decide (Y=gy)then(fy (((bif em then 0 else D.length+1):Nat):Int) 4 F).bind λa7=>(eV 1 a7).bind λL=>(ae nP (((((bif em then 0 else D.length+1):Nat):Int)-1),L.1,0,x,ck,cp,cw,cx,[],[],[],[],l,N,em,D,o,ah,L.2.1.1,L.2.1.2.1,L.2.1.2.2,L.2.2.1,L.2.2.2.1,L.2.2.2.2.1,L.2.2.2.2.2,())).bind λ(cj,ca,cc,cd,cg,ch,dk,ds,c8,dd,bp,bx,ar,an,b0,b1,b2,b3,b4,b5,b6,b7,b8,_)=>J (an.length+2<=1000000000)<|some (ca,cc,cd,cg,ch,bp,bx,false,(bif ar then[]else(an++[(b0,b1)])),cj,[],((b2,b3,b4),b5,b6,b7,b8))else(fb 1 F).bind λc4=>none
def aiZ:adV:=λ(x7,N,D,an,ar,az,aE,a1,a6,a7,a8,bb,Y,Z,L,M,O,ah,bx,b0,b1,b2,b3,b4,b5,_)=>let U:Bool×c7->Option (Int×aa×Int×rz⊕aa×rz):=λaH=>J (ab .i64 (D+1))<|some (.inl (x7,N,(D+1),an,ar,az,aE,a1,a6,a7,a8,bb,Y,Z,L,M,O,ah,aH.2.1.1,aH.2.1.2.1,aH.2.1.2.2,aH.2.2.1,aH.2.2.2.1,aH.2.2.2.2.1,aH.2.2.2.2.2,()));let bp:Bool×c7->Option (Int×aa×Int×rz⊕aa×rz):=λaH=>(fb 3 aH.2).bind λF=>J (ab .i64 (D+1))<|some (.inl (x7,N,(D+1),an,ar,az,aE,a1,a6,a7,a8,bb,Y,Z,L,M,O,ah,F.1.1,F.1.2.1,F.1.2.2,F.2.1,F.2.2.1,F.2.2.2.1,F.2.2.2.2,()));bif decide (D<=x7)then(dJ ((bx,b0,b1),b2,b3,b4,b5)).bind λaH=>bif aH.1 then only (!L)<|J (0<=D/\D<=(M.length:Int))<|bif decide (D=(M.length:Int))then only (!L)<|bif decide (O=N)then bp aH else U aH else only (!L)<|(M[D.toNat]?).bind λb6=>bif decide (b6.1=N)then bp aH else U aH else U aH else some (.inr (N,an,ar,az,aE,a1,a6,a7,a8,bb,Y,Z,L,M,O,ah,bx,b0,b1,b2,b3,b4,b5,()))
def y6(x O U Y:aa)(Z:Bool)(x2:aa)(l F:aT)(em:Bool)(D:oP)(o:aa)(N:aT)(L:c7):Bq:=let a6:c7->Bq:=λah=>only (!em)<|J (0<=((((bif em then 0 else D.length+1):Nat):Int)-1)/\((((bif em then 0 else D.length+1):Nat):Int)-1)<=(D.length:Int))<|bif decide (((((bif em then 0 else D.length+1):Nat):Int)-1)=(D.length:Int))then only (!em)<|(fx 4 ah).bind λa1=>J (N.length+([a1.1]:aT).length<=1000000000)<|only (!em)<|J (0<=((((bif em then 0 else D.length+1):Nat):Int)-1)/\((((bif em then 0 else D.length+1):Nat):Int)-1)<=(D.length:Int))<|bif decide (((((bif em then 0 else D.length+1):Nat):Int)-1)=(D.length:Int))then only (!em)<|some (x,O,U,Y,Z,l,F,em,D,o,(N++([a1.1]:aT)),a1.2)else none else only (!em)<|(D[((((bif em then 0 else D.length+1):Nat):Int)-1).toNat]?).bind λy=>(fx 4 ah).bind λb2=>none;let ar:c7->Bq:=λan=>(fy (l.length:Int) 4 an).bind λbb=>(fx 0 bb).bind λaz=>J (l.length+([az.1]:aT).length<=1000000000)<|some (x,O,U,Y,Z,(l++([az.1]:aT)),F,em,D,o,N,az.2);J (ab .i64 ((((bif em then 0 else D.length+1):Nat):Int)-1))<|bif decide (x2=jg)then bif decide (0<(F.length:Int))then(fb 1 L).bind λan=>ar an else bif decide (0<(((bif em then 0 else D.length+1):Nat):Int))then(fb 1 L).bind λa7=>ar a7 else ar L else bif decide (x2=kG)then bif decide (((((bif em then 0 else D.length+1):Nat):Int)-1)<0)then(fy (F.length:Int) 8 L).bind λbp=>(fx 4 bp).bind λaE=>J (F.length+([aE.1]:aT).length<=1000000000)<|some (x,O,U,Y,Z,l,(F++([aE.1]:aT)),em,D,o,N,aE.2)else only (!em)<|J (0<=((((bif em then 0 else D.length+1):Nat):Int)-1)/\((((bif em then 0 else D.length+1):Nat):Int)-1)<=(D.length:Int))<|bif decide (((((bif em then 0 else D.length+1):Nat):Int)-1)=(D.length:Int))then only (!em)<|(fy (N.length:Int) 8 L).bind λah=>a6 ah else only (!em)<|(D[((((bif em then 0 else D.length+1):Nat):Int)-1).toNat]?).bind λb1=>(fy (b1.2.length:Int) 8 L).bind λbx=>a6 bx else bif decide (x2=gy)then(fy (((bif em then 0 else D.length+1):Nat):Int) 4 L).bind λb0=>(eV 1 b0).bind λM=>(ae aiZ (((((bif em then 0 else D.length+1):Nat):Int)-1),M.1,0,x,O,U,Y,Z,[],[],[],[],l,F,em,D,o,N,M.2.1.1,M.2.1.2.1,M.2.1.2.2,M.2.2.1,M.2.2.2.1,M.2.2.2.2.1,M.2.2.2.2.2,())).bind λ_=>none else(fb 1 L).bind λa8=>some (x,O,U,Y,Z,l,F,em,D,o,N,a8)
def lq:Lp (gr×Int×Bs) (gr×Bs⊕aa×kt):=λ(U,O,bb,bp,bx,b0,b5,D,F,az,aE,a1,a6,a7,Z,ah,Y,an,a8,ar,_)=>let b6:aa×aa×aa×aa×Bool×aT×aT×Bool×oP×aa×aT×c7->Option (gr×Int×Bs⊕gr×Bs⊕aa×kt):=λM=>only (!D)<|J (0<=((((bif D then 0 else F.length+1):Nat):Int)-1)/\((((bif D then 0 else F.length+1):Nat):Int)-1)<=(F.length:Int))<|bif decide (((((bif D then 0 else F.length+1):Nat):Int)-1)=(F.length:Int))then only (!D)<|(gM M.2.2.2.2.2.2.2.2.2.2.2).bind λcd=>(dJ cd).bind λb3=>bif !b3.1 then some (.inr (.inr ([],b3.2.2.2.1,b3.2.2.2.2.1,b3.2.2.2.2.2,())))else J (ab .i64 (O+1))<|some (.inl (U,(O+1),bb,bp,bx,b0,b5,D,F,M.1,M.2.1,M.2.2.1,M.2.2.2.1,M.2.2.2.2.1,M.2.2.2.2.2.1,M.2.2.2.2.2.2.1,M.2.2.2.2.2.2.2.1,M.2.2.2.2.2.2.2.2.1,M.2.2.2.2.2.2.2.2.2.1,M.2.2.2.2.2.2.2.2.2.2.1,()))else none;let b7:aa×c7->Option (gr×Int×Bs⊕gr×Bs⊕aa×kt):=λb4=>(gM b4.2).bind λb8=>(dJ b8).bind λaH=>bif !aH.1 then some (.inr (.inr ([],aH.2.2.2.1,aH.2.2.2.2.1,aH.2.2.2.2.2,())))else J (ab .i64 (O+1))<|some (.inl (U,(O+1),bb,bp,bx,b0,b4.1,D,F,az,aE,a1,a6,a7,Z,ah,Y,an,a8,ar,()));bif decide (O<(U.length:Int))then(ag U O).bind λcp=>(jz (cp,0,0,0,0)).bind λN=>bif decide (O=0)then bif !decide (N.1=S6)then(fb 1 N.2).bind λcg=>(eV 1 cg).bind λb4=>b7 b4 else(eV 1 N.2).bind λcj=>b7 cj else bif decide (N.1=S7)then(E1 b5 D F az aE a1 a6 a7 N.2 Z ah Y an a8 ar).bind λL=>(gM L.2.2.2.2.2.2.2.2.1).bind λca=>(dJ ca).bind λb1=>bif !b1.1 then some (.inr (.inr ([],b1.2.2.2.1,b1.2.2.2.2.1,b1.2.2.2.2.2,())))else J (ab .i64 (O+1))<|some (.inl (U,(O+1),bb,bp,bx,b0,L.1,L.2.1,L.2.2.1,L.2.2.2.1,L.2.2.2.2.1,L.2.2.2.2.2.1,L.2.2.2.2.2.2.1,L.2.2.2.2.2.2.2.1,L.2.2.2.2.2.2.2.2.2.1,L.2.2.2.2.2.2.2.2.2.2.1,L.2.2.2.2.2.2.2.2.2.2.2.1,L.2.2.2.2.2.2.2.2.2.2.2.2.1,L.2.2.2.2.2.2.2.2.2.2.2.2.2.1,L.2.2.2.2.2.2.2.2.2.2.2.2.2.2,()))else bif decide ((((bif D then 0 else F.length+1):Nat):Int)=0)then(fb 1 N.2).bind λch=>(gM ch).bind λcc=>(dJ cc).bind λb2=>bif !b2.1 then some (.inr (.inr ([],b2.2.2.2.1,b2.2.2.2.2.1,b2.2.2.2.2.2,())))else J (ab .i64 (O+1))<|some (.inl (U,(O+1),bb,bp,bx,b0,b5,D,F,az,aE,a1,a6,a7,Z,ah,Y,an,a8,ar,()))else bif decide (N.1=gy)then J (ab .i64 ((((bif D then 0 else F.length+1):Nat):Int)-1))<|J (ab .i64 ((((bif D then 0 else F.length+1):Nat):Int)-1))<|only (!D)<|J (0<=((((bif D then 0 else F.length+1):Nat):Int)-1)/\((((bif D then 0 else F.length+1):Nat):Int)-1)<=(F.length:Int))<|bif decide (((((bif D then 0 else F.length+1):Nat):Int)-1)=(F.length:Int))then only (!D)<|(Kb az aE a1 a6 a7 N.1 Z ah Y an a8 ar N.2).bind λM=>b6 M else only (!D)<|(F[((((bif D then 0 else F.length+1):Nat):Int)-1).toNat]?).bind λy=>none else J (ab .i64 ((((bif D then 0 else F.length+1):Nat):Int)-1))<|J (ab .i64 ((((bif D then 0 else F.length+1):Nat):Int)-1))<|only (!D)<|J (0<=((((bif D then 0 else F.length+1):Nat):Int)-1)/\((((bif D then 0 else F.length+1):Nat):Int)-1)<=(F.length:Int))<|bif decide (((((bif D then 0 else F.length+1):Nat):Int)-1)=(F.length:Int))then only (!D)<|(y6 az aE a1 a6 a7 N.1 Z ah Y an a8 ar N.2).bind λck=>b6 ck else only (!D)<|(F[((((bif D then 0 else F.length+1):Nat):Int)-1).toNat]?).bind λcw=>none else some (.inr (.inl (U,bb,bp,bx,b0,b5,D,F,az,aE,a1,a6,a7,Z,ah,Y,an,a8,ar,())))
def zL(x:aa):Option ((aa×Bm)×jQ):=(zZ x).bind λD=>bif !decide (D.2.1=0)then some (([],[]),D.2)else(ae lq (D.1,0,[],0,0,0,[],true,[],[],[],[],[],false,[],[],true,[],[],[],())).bind λo=>match o with|.inl (ar,bp,b1,bx,b0,az,F,L,aE,a1,a6,a7,a8,M,N,J,O,bb,U,_)=>bif decide ((ar.length:Int)=0)then some (([],[]),(1,0,0))else some ((az,(bif F then[]else(L++[(aE,a1,a6,a7,a8,M,N,(bif J then[]else(O++[(bb,U)])))]))),(0,0,0))|.inr (Y,Z,ah,an,_)=>some ((Y,[]),(Z,ah,an))
def ql:Lp (ak×Bool×Int×aa×jv×aT×br×gf×br×aa×ak×oO×Unit) (Bool×aa×jv×aT×br×gf×br×aa×oO×Unit⊕p6):=λ(N,O,F,az,Z,ah,an,ar,U,Y,L,M,_)=>bif decide (F<(N.length:Int))then(ag N F).bind λa1=>(zL a1).bind λD=>bif !decide (D.2.1=0)then some (.inr (.inr ([],())))else(nY L D.1.1).bind λaE=>bif aE then some (.inr (.inr ([],())))else J (L.length+([D.1.1]:ak).length<=1000000000)<|J (M.length+([D.1]:oO).length<=1000000000)<|J (ab .i64 (F+1))<|some (.inl (N,O,(F+1),az,Z,ah,an,ar,U,Y,(L++([D.1.1]:ak)),(M++([D.1]:oO)),()))else some (.inr (.inl (O,az,Z,ah,an,ar,U,Y,M,())))
def Fo(x M:aa)(J:ak):Option ((lX×aa×oO)×Bool):=(zK x).bind λD=>bif !decide (D.2.1=0)then some ((([],[],[],[],[]),[],[]),false)else bif decide (6<(J.length:Int))then some ((([],[],[],[],[]),[],[]),false)else(wE D.1.2.2.2.2 M).bind λF=>(ae ql (J,F.2,0,[],D.1.1,D.1.2.1,D.1.2.2.1,D.1.2.2.2.1,D.1.2.2.2.2,F.1,[],[],())).bind λo=>match o with|.inl (N,az,O,U,Y,Z,ah,an,L,_)=>some (((O,U,Y,Z,ah),an,L),N)|.inr (ar,_)=>some ((([],[],[],[],[]),ar,[]),false)
def D'(c:Int):bX:=bif decide (c=32)then some true else some (decide (c=9))
def DB:Lp (Int×aa×Br) (Int×aa×Br):=λ(N,F,M,D,L)=>bif decide (D<(F.length:Int))then(ag F D).bind λO=>(D' (O.toNat:Int)).bind λU=>bif !U then J (ab .i64 (D+1))<|some (.inl (N,F,M,(D+1),L))else some (.inr (N,F,M,D,L))else some (.inr (N,F,M,D,L))
def yY:Lp (Int×aa×Int×Br) (Int×aa×Br⊕pQ):=λ(L,F,O,M,D,N)=>bif decide (D<M)then(ag F D).bind λU=>bif decide ((U.toNat:Int)<33)then J (ab .i64 (D+1))<|some (.inr (.inr (0,1,L,(D+1),())))else(ag F D).bind λY=>bif decide (126<(Y.toNat:Int))then J (ab .i64 (D+1))<|some (.inr (.inr (0,1,L,(D+1),())))else J (ab .i64 (D+1))<|some (.inl (L,F,O,M,(D+1),N))else some (.inr (.inl (L,F,O,M,N)))
def vW:Lp (Int×aa×Int×O9) (O9⊕pQ):=λ(az,N,L,U)=>bif decide (L<(N.length:Int))then(ag N L).bind λb=>(D' (b.toNat:Int)).bind λaE=>bif aE then J (ab .i64 (L+1))<|some (.inl (az,N,(L+1),U))else(ae DB (az,N,L,L,U)).bind λ(Z,a6,D,Y,a8,bp,bx,b0,b4,ah,a1)=>bif decide ((ah.length:Int)=20)then J (ab .i64 (D+1))<|some (.inr (.inr (0,2,Z,(D+1),())))else J (ab .i64 (Y-D))<|bif decide (80<(Y-D))then J (ab .i64 (D+1))<|some (.inr (.inr (0,2,Z,(D+1),())))else(ae yY (Z,a6,D,Y,D,a8,bp,bx,b0,b4,ah,a1)).bind λo=>match o with|.inl (b6,O,F,M,bb,b1,b2,b3,b5,an,ar,_)=>J (0<=F/\F<=M/\M<=O.length)<|J (an.length+([((O.take M.toNat).drop F.toNat)]:ak).length<=1000000000)<|J (ab .i64 (F+1))<|J (ar.length+([(F+1)]:aM).length<=1000000000)<|some (.inl (b6,O,M,bb,b1,b2,b3,b5,(an++([((O.take M.toNat).drop F.toNat)]:ak)),(ar++([(F+1)]:aM)),()))|.inr a7=>some (.inr (.inr a7))else some (.inr (.inl (U)))
def zl(x:Int)(M:aa):Option (Ia×jQ):=(lp M T7).bind λD=>(ae vW (x,D.1,0,0,0,0,0,x,[],[],())).bind λF=>match F with|.inl (ah,an,ar,az,Z,J,L,_)=>some ((Z,J,L),(0,0,0))|.inr (N,O,U,Y,_)=>some ((N,[],[]),(O,U,Y))
def zb:Lp (Int×Int×aa×NN) (NN⊕kt):=λ(L,no,rest,M,N,O,D,_)=>bif !decide (rest=[])then bif decide (L<no)then some (.inr (.inr (2,no,0,())))else(lp rest T8).bind λF=>(zl no F.1).bind λsplit=>bif !((decide (split.2.1=0)&&(decide (split.2.2.1=0)&&decide (split.2.2.2=0))))then some (.inr (.inr (split.2.1,split.2.2.1,split.2.2.2,())))else bif decide (0<(split.1.2.1.length:Int))then J (D.length+([split.1]:gr).length<=1000000000)<|J (ab .i64 (no+1))<|some (.inl (L,(no+1),F.2.1,M,N,O,(D++([split.1]:gr)),()))else J (ab .i64 (no+1))<|some (.inl (L,(no+1),F.2.1,M,N,O,D,()))else some (.inr (.inl (M,N,O,D,())))
def ED(s:aa)(D:Int):NJ:=(ae zb (D,1,s,0,0,0,[],())).bind λo=>match o with|.inl (U,N,O,F,_)=>some (F,(0,0,0))|.inr (J,L,M,_)=>some ([],(J,L,M))
end
end Go.Proofs.YtejhifnjgoclpaaGreatDoor.Fx
