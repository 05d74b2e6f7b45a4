/- Parts of the proofs, put together by a program. -/
import Derived.WalkKit
import Derived.ProofKit
import Derived.OpenShut
import Derived.Lib.Hide
import Derived.Laws.OwnMore
import Derived.Deep.Slices
import Derived.Deep.Fields
import Derived.Lib.SmallJoins
import Derived.Deep.AppendLies
import Derived.WalkSmall
import Derived.Laws.MakeOwn
import Derived.OrdersHeld
import Derived.Lib.ItoaNum
import Derived.Laws.StructEq
import Derived.Deep.AppendSrc
set_option linter.unusedVariables false
set_option linter.unusedSimpArgs false
set_option linter.unusedSectionVars false
open Nat renaming le_refl->at9,zero_le->au2,beq->au9,eq_of_beq_eq_true->aw6,le_trans->aw8,zero_add->ax2,mul_le_mul_right->az8,add_mul->aA0,lt_of_lt_of_le->aA5,add_comm->aB6,le_of_lt->aB7,one_mul->aC4,add_assoc->aC9,succ_mul->aD0,blt_eq->aD3,mul_le_mul->aE1,min_eq_left->aF3
open Bool renaming and_eq_true->au0,not_true->av2,false_eq_true->av7,not_eq_true'->ay6,or_eq_true->az0
open List renaming length_map->au1,getElem?_eq_getElem->au4,length_append->au5,length_cons->av1,mem_append->av3,replicate->av5,drop_eq_getElem_cons->av6,mem_singleton->aw0,map_append->aw1,mem_cons->aw2,mem_cons_self->aw4,append_nil->aw5,length_take->aw7,append_assoc->aw9,all_eq_true->ax0,mem_map->ax1,take_append_drop->ax4,mem_cons_of_mem->ax5,drop_zero->ax7,all_cons->ay4,getElem?_eq_some_iff->ay9,length_eq_zero_iff->az2,drop_eq_nil_of_le->az3,mem_of_getElem?->az6,range->aA2,take_left->aB2,nil_append->aB4,take_of_length_le->aB8,drop_left->aC2,getD_eq_getElem?_getD->aC3,take_left'->aD2,getElem?_append_left->aD9,map_congr_left->aE3,flatten_cons->aE9,drop_drop->aF1,map_cons->aF4,size_toArray->aF5,drop_append_of_le_length->aG8,length_replicate->aG9,replicate_succ->aH8,take_append_of_le_length->aH9,getElem?_map->aI0,getElem?_append_right->aI8
open Go.Op renaming operands->au7
open Int renaming toNat_natCast->av0,toNat_of_nonneg->aA7,toNat->aB1,ofNat_le->aF2
open Go.IntKind renaming wrap->av4
open Go.Sem renaming run_bind->ax3,run_pure->ay1
open Go.Result renaming andThen_ok->ax9
open Option renaming bind_eq_some_iff->ay0,map_some->az7,isSome_iff_exists->aB0,map_none->aD1,isSome_none->aE0
open Array renaming toArray_toList->aH0
namespace Go.Proofs.YtejhifnjgoclpaaGreatDoor
open Go.RowKit
def acR(k:IntKind)(w:World)(v:Value)(l:List Int):Prop:=
 (∃a cap,v=.slice a 0 cap/\l=[])\/
 ∃b off cap,v=.slice (some ⟨b,off,none⟩) l.length cap/\0<l.length/\l.length<=maxLen/\b<w.heap.size/\∀i,i<l.length->w.cell? ⟨b,off+i,none⟩=some (.int k (l.getD i 0))
theorem amz{w:World}{b o:Nat}{v:Value}(h:w.cell? ⟨b,o,none⟩=some v):b<w.heap.size:=by
 apply Classical.byContradiction;intro D;have:w.heap[b]? =none:=by simp;omega
 simp [World.cell?,this]at h
theorem acR.len{k:IntKind}{w:World}{v:Value}{l:List Int}(h:acR k w v l):l.length<=maxLen:=by
 rcases h with⟨_,_,_,rfl⟩|⟨_,_,_,_,_,h,_⟩
 ·simp
 ·exact h
end Go.Proofs.YtejhifnjgoclpaaGreatDoor
namespace Go.Proofs.YtejhifnjgoclpaaGreatDoor
open Go.RowKit
def acP(w:World)(v:Value)(vs:List Value):Prop:=
 (∃a cap,v=.slice a 0 cap/\vs=[])\/
 ∃b off cap,v=.slice (some ⟨b,off,none⟩) vs.length cap/\(0<vs.length/\vs.length<=cap)/\cap<=maxLen/\b<w.heap.size/\∀i,i<vs.length->w.cell? ⟨b,off+i,none⟩=vs[i]?
theorem acP.len{w:World}{v:Value}{l:List Value}(h:acP w v l):l.length<=maxLen:=by
 rcases h with⟨_,_,_,rfl⟩|⟨_,_,_,_,h1,h,_⟩
 ·simp
 ·exact aw8 h1.2 h
theorem ajE{w w':World}{base:Nat}{e:TypeId}{size:Nat}{v:Value}{n:Nat}{xs:List Value}(h:w.ownsRow base e size v n xs)(J:Below w.heap.size w w'):w'.ownsRow base e size v n xs:=by
 obtain⟨L,h⟩:=h;refine⟨L,?_⟩;rcases h with h|⟨g,cap,cur,h1,h2,D,F⟩
 ·exact .inl h
 ·refine .inr ⟨g,cap,cur,h1,h2,?_,F⟩
  have M:g<w.heap.size:=by
   apply Classical.byContradiction;intro N;have:w.heap[g]? =none:=by simp;omega
   rw[this]at D;cases D
  rw[J.block g M];exact D
end Go.Proofs.YtejhifnjgoclpaaGreatDoor
namespace Go.Proofs.YtejhifnjgoclpaaGreatDoor
open Go.RowKit Go.ChangeShapes Go.WideShapes Go.Deep
def Cells(w:World)(b off n:Nat)(cs:List Value):Prop:=cs.length=n/\∀j,j<n->w.cell? ⟨b,off+j,none⟩=cs[j]?
def RowOf{α:Type}(n:Nat)(R:World->List Value->α->Prop)(w:World)(v:Value)(l:List α):Prop:=
 (∃a cap,v=.slice a 0 cap/\l=[]/\cap<=maxLen)\/
 ∃b off cap,v=.slice (some ⟨b,off,none⟩) l.length cap/\l.length<=cap/\cap<=maxLen/\b<w.heap.size/\∀(i:Nat) (h:i<l.length),∃cs,Cells w b (off+i*n) n cs/\R w cs l[i]
theorem RowOf.len{α:Type}{n:Nat}{R:World->List Value->α->Prop}{w:World}{v:Value}{l:List α}(h:RowOf n R w v l):l.length<=maxLen:=by
 rcases h with⟨_,_,_,rfl,_⟩|⟨_,_,_,_,h1,h2,_⟩
 ·simp
 ·exact aw8 h1 h2
theorem RowOf.at_{α:Type}{n:Nat}{R:World->List Value->α->Prop}{w:World}{a:Option Addr}{len cap:Nat}{l:List α}(h:RowOf n R w (.slice a len cap) l)(i:Nat)(D:i<l.length):
  ∃b off,a=some ⟨b,off,none⟩/\b<w.heap.size/\∃cs,Cells w b (off+i*n) n cs/\R w cs l[i]:=by
 rcases h with⟨_,_,_,rfl,_⟩|⟨b,off,L,F,_,_,J,hc⟩
 ·simp at D
 ·simp only[Value.slice.injEq]at F;exact⟨b,off,F.1,J,hc i D⟩
section
variable {H:Type} {enc:TypeId×Value->H} {P:Program} {w:World} {base:Nat} {spare:Nat->Bool} {held:Bool}
theorem akQ{α:Type}[Inhabited α]{R:World->List Value->α->Prop}{t e:TypeId}{n fuel:Nat}{cs:List Value}{x:DataW H×List MemPlace}(ht:P.underlying t=some (.slice e))(hC:P.cellsOf e=n)(O:0<n)
  (hR:∀m cs y,DataW.trod enc P w base spare held m e cs=some y->∃x:α,R w cs x)
  (h:DataW.trod enc P w base spare held fuel t cs=some x):∃(v:Value) (l:List α),cs=[v]/\RowOf n R w v l:=by
 rcases open_slice ht h with⟨rfl,_⟩|⟨a,len,cap,m,k,D,Pl,rfl,hb,hl,hm,an,N,hi⟩
 ·exact⟨_,[],rfl,.inl ⟨_,_,rfl,rfl,by omega⟩⟩
 ·refine⟨.slice (some a) len cap,?_⟩;by_cases h0:len=0
  ·subst h0;exact⟨[],rfl,.inl ⟨_,_,rfl,rfl,hm⟩⟩
  ·have aE:len<=m:=by rw[an];split<;>omega
   have Y:∀i,i<len->∃x:α,∃F,(F.length=n/\∀j,j<n->w.cell? ((a.add (i*n)).add j)=F[j]?)/\R w F x:=λi M=>by
    obtain⟨F,hc,az⟩:=hi i (by omega)
    rw[hC]at hc;obtain⟨_,L,J⟩:=World.cells?_some hc;obtain⟨x,N⟩:=hR _ _ _ az;exact⟨x,F,⟨L,J⟩,N⟩
   obtain⟨f,hf⟩:=choose_lt Y;obtain⟨b,off,spot⟩:=a
   have ar:spot=none:=by
    obtain⟨F,⟨L,J⟩,_⟩:=hf 0 (by omega)
    have h1:=J 0 O;have h2:F[0]? =some (F[0]'(by omega)):=au4 (by omega)
    rw[h2]at h1;simpa[Addr.add]using World.cell?_spot h1
   subst ar;have U:∀k,(⟨b,off,none⟩:Addr).add k=⟨b,off+k,none⟩:=λk=>by unfold Addr.add;by_cases hk:k=0<;>simp [hk]
   have J:∀i,i<len->∃F,Cells w b (off+i*n) n F/\R w F (f i):=λi M=>by obtain⟨F,⟨L,J⟩,N⟩:=hf i M;refine⟨F,⟨L,λj hj=>?_⟩,N⟩;have:=J j hj;rw[Go.Deep.add_add,U]at this;rw[aC9];exact this
   have Z:b<w.heap.size:=by
    obtain⟨F,⟨L,hc⟩,_⟩:=J 0 (by omega)
    have h1:=hc 0 O;have h2:F[0]? =some (F[0]'(by omega)):=au4 (by omega)
    rw[h2]at h1;exact amz h1
   refine⟨(aA2 len).map f,rfl,.inr ⟨b,off,cap,by simp,by simp;omega,hm,Z,λi ah=>?_⟩⟩
   have M:i<len:=by simpa using ah
   obtain⟨F,hc,hr⟩:=J i M;exact⟨F,hc,by simpa using hr⟩
end
end Go.Proofs.YtejhifnjgoclpaaGreatDoor
namespace Go.Proofs.YtejhifnjgoclpaaGreatDoor
open Go.RowKit
structure rm(F:Nat->Prop)(w w':World):Prop where
 os:w'.os=w.os
 tape:w'.tape=w.tape
 output:w'.output=w.output
 size:w.heap.size<=w'.heap.size
 block:∀b,b<w.heap.size->¬F b->w'.heap[b]? =w.heap[b]?
theorem rm.refl(F:Nat->Prop)(w:World):rm F w w:=⟨rfl,rfl,rfl,at9 _,λ_ _ _=>rfl⟩
theorem rm.trans{F:Nat->Prop}{a b c:World}(h:rm F a b)(k:rm F b c):rm F a c:=
 ⟨k.os.trans h.os,k.tape.trans h.tape,k.output.trans h.output,aw8 h.size k.size,λx J D=>(k.block x (aA5 J h.size) D).trans (h.block x J D)⟩
def T2{α:Type}(R:World->List Value->α->Prop)(w:World)(F:Nat->Prop)(cs:List Value)(x:α):Prop:= ∀w',rm F w w'->R w' cs x
theorem T2.here{α:Type}{R:World->List Value->α->Prop}{w:World}{F:Nat->Prop}{cs:List Value}{x:α}(h:T2 R w F cs x):R w cs x:=h w (rm.refl F w)
def adl{α:Type}(n:Nat)(R:World->List Value->α->Prop)(F:Nat->Prop)(w:World)(base:Nat)(E:TypeId)(v:Value)(l:List α):Prop:=
 ∃D:List (List Value),D.length=l.length/\(∀cs∈D,cs.length=n)/\w.ownsRow base E n v l.length D.flatten/\∀(i:Nat) (h:i<D.length) (h':i<l.length),T2 R w (λb=>F b\/v.ownBlock=some b) D[i] l[i]
theorem amL(n:Nat):∀(D:List (List Value)),(∀c∈D,c.length=n)->∀(i:Nat) (h:i<D.length) (j:Nat),j<n->D.flatten[i*n+j]? =(D[i])[j]? :=by
 intro D
 induction D with
 |nil=>intro _ i h;simp at h
 |cons c t M=>
  intro hc i h j L;have F:c.length=n:=hc c (by simp)
  cases i with
  |zero=>
   rw[aE9,aD9 (by omega)]
   simp
  |succ i=>
   rw[aE9,aI8 (by rw[F,aD0];omega)]
   have e:(i+1)*n+j-c.length=i*n+j:=by rw[F,aD0];omega
   rw[e,M (λc J=>hc c (by simp [J])) i (by simpa using h) j L]
   simp
theorem ajD{w:World}{base:Nat}{E:TypeId}{n g cap m:Nat}{xs:List Value}(h:w.ownsRow base E n (.slice (some ⟨g,0,none⟩) m cap) m xs){j:Nat}(J:j<m*n):w.cell? ⟨g,j,none⟩=xs[j]? :=by
 obtain⟨O,h⟩:=h;rcases h with⟨h,_⟩|⟨M,L,cur,h1,_,D,_,_,_,F⟩
 ·cases h
 ·injection h1 with h1 h2 N;injection h1 with h1;injection h1 with h1;subst h1;rw[cell_of_row w g j cur E (0,0) D,<-F,List.getElem?_take_of_lt J,Array.getElem?_toList]
theorem adl.row{α:Type}{n:Nat}{R:World->List Value->α->Prop}{F:Nat->Prop}{w:World}{base:Nat}{E:TypeId}{v:Value}{l:List α}(h:adl n R F w base E v l)(hn:0<n):RowOf n R w v l:=by
 obtain⟨D,h1,h2,J,Z⟩:=h;by_cases U:l.length=0
 ·have az:=az2.1 U;subst az;rcases J.2 with⟨rfl,_⟩|⟨g,cap,cur,rfl,_,_,_,hc,_⟩
  ·exact .inl ⟨_,_,rfl,rfl,by omega⟩
  ·exact .inl ⟨_,_,rfl,rfl,hc⟩
 ·have Y:=J;rcases J.2 with⟨_,h0⟩|⟨g,cap,cur,rfl,_,M,ah,an,_⟩
  ·exact absurd h0 U
  ·refine .inr ⟨g,0,cap,rfl,ah,an,?_,λi N=>?_⟩
   ·rcases Nat.lt_or_ge g w.heap.size with L|ar
    ·exact L
    ·rw[Array.getElem?_eq_none ar]at M;cases M
   ·have O:i<D.length:=by omega
    refine⟨D[i],⟨h2 _ (List.getElem_mem _),λj hj=>?_⟩,(Z i O N).here⟩;have L:i*n+j<l.length*n:=by have:(i+1)*n<=l.length*n:=az8 n N;rw[aD0]at this;omega
    rw[ax2,ajD Y L];exact amL n D h2 i O j hj
def adn{α:Type}(n:Nat)(R:World->List Value->α->Prop)(F:Nat->Prop)(w:World)(v:Value)(l:List α):Prop:=
 (∃a cap,v=.slice a 0 cap/\l=[]/\cap<=maxLen)\/
 ∃(b off cap:Nat) (D:List (List Value)),v=.slice (some ⟨b,off,none⟩) l.length cap/\l.length<=cap/\cap<=maxLen/\b<w.heap.size/\D.length=l.length/\
  ∀(i:Nat) (h:i<D.length) (h':i<l.length) (w':World),rm F w w'->Cells w' b (off+i*n) n D[i]/\R w' D[i] l[i]
theorem adn.row{α:Type}{n:Nat}{R:World->List Value->α->Prop}{F:Nat->Prop}{w:World}{v:Value}{l:List α}(h:adn n R F w v l):RowOf n R w v l:=by
 rcases h with h|⟨b,off,cap,D,h1,h2,J,L,O,M⟩
 ·exact .inl h
 ·exact .inr ⟨b,off,cap,h1,h2,J,L,λi N=>⟨D[i]'(by omega),M i (by omega) N w (rm.refl _ _)⟩⟩
end Go.Proofs.YtejhifnjgoclpaaGreatDoor
namespace Go.Proofs.YtejhifnjgoclpaaGreatDoor
open Go.RowKit
theorem aqD{b c o p:Nat}(h:o≠p):(⟨b,o,none⟩:Addr)≠⟨c,p,none⟩:=by intro e;injection e with _ D;exact h D
theorem arJ{w:World}{a b:Addr}{v:Value}(h:a≠b):(w.setCell a v).cell? b=w.cell? b:=World.cell?_setCell_other _ _ _ _ h
theorem arK{w:World}{a:Addr}{v u:Value}(h:w.cell? a=some u):(w.setCell a v).cell? a=some v:=World.cell?_setCell_same _ _ _ h
structure kQ(w:World)(b:Nat)(vs:List Value):Prop where
 lt:b<w.heap.size
 cell:∀i,i<vs.length->w.cell? ⟨b,i,none⟩=vs[i]?
 free:∀i,w.frozen? ⟨b,i,none⟩=false
theorem kQ.get{w:World}{b:Nat}{vs:List Value}(h:kQ w b vs)(i:Nat){u:Value}(hu:vs[i]? =some u):w.cell? ⟨b,i,none⟩=some u:=by rw[h.cell i (by rcases Nat.lt_or_ge i vs.length with D|D;exact D;rw[List.getElem?_eq_none D]at hu;cases hu),hu]
theorem kQ.below{w w':World}{b:Nat}{vs:List Value}{B:Nat}(h:kQ w b vs)(D:Below B w w')(J:b<B):kQ w' b vs:=by have F:=D.block b J;exact⟨aA5 h.lt D.size,λi L=>by rw[World.cell?_of_block (w:=w) (a:=⟨b,i,none⟩) F];exact h.cell i L,λi=>by rw[World.frozen?_of_block (w:=w) (a:=⟨b,i,none⟩) F];exact h.free i⟩
theorem kQ.after{w w':World}{b:Nat}{vs:List Value}(h:kQ w b vs)(D:Below w.heap.size w w'):kQ w' b vs:=h.below D h.lt
theorem aic(w:World)(a:Addr)(u:Value):(w.setCell a u).heap.size=w.heap.size:=by simp [World.setCell]
theorem kQ.set{w:World}{b:Nat}{vs:List Value}(h:kQ w b vs)(i:Nat)(D:i<vs.length)(u:Value):kQ (w.setCell ⟨b,i,none⟩ u) b (vs.set i u):=by
 refine⟨by rw[aic];exact h.lt,λj F=>?_,λj=>by rw[World.frozen?_setCell];exact h.free j⟩
 rw[List.length_set]at F;by_cases e:i=j
 ·subst e;rw[arK (u:=vs[i]) (by rw[h.cell i D];simp),List.getElem?_set_self D]
 ·rw[arJ (aqD e),List.getElem?_set_ne e];exact h.cell j F
theorem kQ.alloc{w:World}{b:Nat}{vs:List Value}(h:kQ w b vs)(o:Obj):kQ (w.alloc o) b vs:=h.after ((Below.refl _ _).alloc (at9 _) o)
end Go.Proofs.YtejhifnjgoclpaaGreatDoor
namespace Go.Proofs.YtejhifnjgoclpaaGreatDoor.Fx
open Go.RowKit
set_option maxRecDepth 1000000
noncomputable section
inductive Ty where
 |int (k:IntKind)
 |bool
 |str
 |gK (k:FloatKind)
 |sl (t:Ty)
 |ptr (t:Ty)
 |opt (t:Ty)
 |pair (a b:Ty)
 |unit
 |val
@[reducible] def den:Ty->Type
 |.int _=>Int
 |.bool=>Bool
 |.str=>List UInt8
 |.gK _=>Nat
 |.sl t=>List (den t)
 |.ptr t=>den t
 |.opt t=>Option (den t)
 |.pair a b=>den a×den b
 |.unit=>Unit
 |.val=>Nat×Value
def nn:(a b:Ty)->Option (PLift (a=b))
 |.int k,.int D=>if h:k=D then some ⟨by rw[h]⟩else none
 |.bool,.bool=>some ⟨rfl⟩
 |.str,.str=>some ⟨rfl⟩
 |.gK k,.gK D=>if h:k=D then some ⟨by rw[h]⟩else none
 |.sl a,.sl b=>match nn a b with|some h=>some ⟨by rw[h.down]⟩|none=>none
 |.ptr a,.ptr b=>match nn a b with|some h=>some ⟨by rw[h.down]⟩|none=>none
 |.opt a,.opt b=>match nn a b with|some h=>some ⟨by rw[h.down]⟩|none=>none
 |.pair a b,.pair c d=>match nn a c,nn b d with|some h,some k=>some ⟨by rw[h.down,k.down]⟩|_,_=>none
 |.unit,.unit=>some ⟨rfl⟩
 |.val,.val=>some ⟨rfl⟩
 |_,_=>none
def wid:Ty->Nat
 |.pair a b=>wid a+wid b
 |.unit=>0
 |_=>1
def lS:Ty->Bool
 |.pair _ _=>false
 |.unit=>false
 |_=>true
inductive LC where
 |v (t:Ty) (x:den t)
 |nil
inductive PK where
 |all
 |el (i j:Nat)
 |nJ (i:Nat)
 |tb (j:Nat)
inductive DC where
 |dead
 |kb (b:Bool)
 |v (t:Ty) (x:den t)
 |nil
 |np
 |z
 |mH (f:Nat)
 |nf
 |ow (k g:Nat) (p:PK)
 |ptr (k i:Nat)
 |el (t:Ty) (x:den t) (j:Nat)
 |A6 (l:List LC)
inductive DS where
 |dead
 |c (x:DC)
 |agg (l:List DC)
 |eR (l:List (Sum DC (List DC)))
 |fn (f:Fn) (a b:List DC)
inductive aR where
 |var (ty:TypeId) (cells:List DC)
 |row (hs:List (Option Nat)) (ty:TypeId) (t:Ty) (l:List (den t))
 |bF (hs:List (Option Nat)) (ty:TypeId) (t:Ty) (e:Bool) (l:List (den t)) (last:List DC)
abbrev Hp:=Nat->Option aR
def cA:(t:Ty)->den t->List DC
 |.pair a b,x=>cA a x.1++cA b x.2
 |.unit,_=>[]
 |.int k,x=>[.v (.int k) x]
 |.bool,x=>[.v .bool x]
 |.str,x=>[.v .str x]
 |.gK k,x=>[.v (.gK k) x]
 |.sl t,x=>[.v (.sl t) x]
 |.ptr t,x=>[.v (.ptr t) x]
 |.opt t,x=>[.v (.opt t) x]
 |.val,x=>[.v .val x]
theorem al1{t:Ty}(h:lS t=true)(x:den t):cA t x=[.v t x]:=by cases t<;>first|rfl|cases h
theorem ja:(t:Ty)->(x:den t)->(cA t x).length=wid t
 |.pair a b,x=>by show(cA a x.1++cA b x.2).length=_;rw[au5,ja a,ja b];rfl
 |.unit,_ |.int _,_ |.bool,_ |.str,_ |.gK _,_ |.sl _,_ |.ptr _,_ |.opt _,_ |.val,_=>rfl
def aQ(t:Ty):List (den t)->List DC
 |[]=>[]
 |x::l=>cA t x++aQ t l
theorem ik{t:Ty}(l:List (den t)):(aQ t l).length=l.length*wid t:=by
 induction l with
 |nil=>simp [aQ]
 |cons x l D=>simp [aQ,D,ja,aA0,aB6]
theorem qp{t:Ty}(l q:List (den t)):aQ t (l++q)=aQ t l++aQ t q:=by
 induction l with
 |nil=>rfl
 |cons x l D=>simp [aQ,D]
theorem E'{t:Ty}:∀{l:List (den t)} {i:Nat} {x:den t},l[i]? =some x->∃r,(aQ t l).drop (i*wid t)=cA t x++r
 |y::l,0,x,h=>⟨aQ t l,by injection h with h;simp [aQ,h]⟩
 |y::l,i+1,x,h=>by obtain⟨r,D⟩:=E' (l:=l) (i:=i) h;exact⟨r,by rw[<-D,aQ,aA0,List.drop_append,ja,az3 (by rw[ja];omega)];simp⟩
def dT:aR->List DC
 |.var _ l=>l
 |.row _ _ t l=>aQ t l
 |.bF _ _ t e l last=>cond e [] (aQ t l++last)
def bc:aR->Nat
 |.row _ _ _ l=>l.length
 |.bF _ _ _ e l _=>cond e 0 (l.length+1)
 |_=>0
def cX:aR->Option (List (Option Nat)×TypeId×Nat)
 |.row hs ty t _=>some (hs,ty,wid t)
 |.bF hs ty t _ _ _=>some (hs,ty,wid t)
 |_=>none
def cD(o:aR)(g:Nat):Option (Option Nat):=match cX o with|some (hs,_)=>(hs++[some (bc o)])[g]? |none=>none
structure Cx where
 m:Nat->Value
 A:Nat->Nat->Prop
def Fz(A:Nat->Nat->Prop)(w:World)(b o i:Nat)(v:Value):Prop:=A b (o+i)/\w.cell? ⟨b,o+i,none⟩=some v
def TR(A:Nat->Nat->Prop)(w:World):(t:Ty)->(Nat->Value->Prop)->den t->Prop
 |.int k,g,x=>g 0 (.int k x)
 |.bool,g,x=>g 0 (.bool x)
 |.str,g,x=>g 0 (.string ⟨x.toArray⟩)
 |.gK k,g,x=>g 0 (.float k x)
 |.val,g,x=>g 0 (.iface x.1 x.2)
 |.unit,_,_=>True
 |.pair a b,g,x=>TR A w a g x.1/\TR A w b (λi=>g (wid a+i)) x.2
 |.ptr t,g,x=>∃b o,g 0 (.pointer (some ⟨b,o,none⟩))/\TR A w t (Fz A w b o) x
 |.opt _,g,none=>g 0 (.pointer none)
 |.opt t,g,some x=>∃b o,g 0 (.pointer (some ⟨b,o,none⟩))/\TR A w t (Fz A w b o) x
 |.sl t,g,l=>∃a cap,g 0 (.slice a l.length cap)/\(l=[]\/l.length<=cap/\cap<=maxLen/\∃b o,a=some ⟨b,o,none⟩/\∀i x,l[i]? =some x->TR A w t (λj=>Fz A w b o (i*wid t+j)) x)
abbrev uE(A:Nat->Nat->Prop)(w:World)(D:Nat->Nat->Prop)(w':World):Prop:= ∀b i v,A b i->w.cell? ⟨b,i,none⟩=some v->D b i/\w'.cell? ⟨b,i,none⟩=some v
theorem TR.mono{A M:Nat->Nat->Prop}{w w':World}(h:uE A w M w'):(t:Ty)->∀{g J:Nat->Value->Prop} {x:den t},(∀i v,g i v->J i v)->TR A w t g x->TR M w' t J x:=by
 have hf:∀b o i v,Fz A w b o i v->Fz M w' b o i v:=λb o i v q=>h _ _ _ q.1 q.2;intro t
 induction t with
 |sl t L=>intro g J x D ⟨a,cap,h1,h2⟩;exact⟨a,cap,D _ _ h1,h2.imp id λ⟨h2,N,b,o,O,U⟩=>⟨h2,N,b,o,O,λi x F=>L (λ_=>hf _ _ _) (U i x F)⟩⟩
 |ptr t L=>intro g J x D ⟨b,o,h1,h2⟩;exact⟨b,o,D _ _ h1,L (hf _ _) h2⟩
 |opt t L=>
  intro g J x D F;cases x with
  |none=>exact D _ _ F
  |some x=>obtain⟨b,o,h1,h2⟩:=F;exact⟨b,o,D _ _ h1,L (hf _ _) h2⟩
 |pair a b Y Z=>intro g J x D F;exact⟨Y D F.1,Z (λi v q=>D _ v q) F.2⟩
 |unit=>intro g J x D F;trivial
 |_=>intro g J x D F;exact D _ _ F
inductive au{α β:Type}(R:α->β->Prop):List α->List β->Prop where
 |nil:au R [] []
 |cons {a:α} {b:β} {l:List α} {q:List β} (h:R a b) (t:au R l q):au R (a::l) (b::q)
section
variable {α β:Type} {R:α->β->Prop}
theorem au.len{l:List α}{q:List β}(h:au R l q):l.length=q.length:=by induction h with|nil=>rfl|cons _ _ D=>simp [D]
theorem au.get{l:List α}{q:List β}(h:au R l q):∀{i:Nat} {y:β},q[i]? =some y->∃x,l[i]? =some x/\R x y:=by
 induction h with
 |nil=>grind
 |cons h t D=>grind
theorem au.of:∀{l:List α} {q:List β},l.length=q.length->(∀(i:Nat) x y,l[i]? =some x->q[i]? =some y->R x y)->au R l q
 |[],[],_,_=>.nil
 |[],_::_,e,_=>nomatch e
 |_::_,[],e,_=>nomatch e
 |x::l,y::q,e,h=>.cons (h 0 _ _ rfl rfl) (au.of (by grind) λi x y h1 h2=>h (i+1) x y h1 h2)
theorem au.imp{γ:Type}{R':α->γ->Prop}{f:β->γ}(hf:∀x y,R x y->R' x (f y)){l:List α}{q:List β}(h:au R l q):au R' l (q.map f):=by induction h with|nil=>exact .nil|cons h _ D=>exact .cons (hf _ _ h) D
theorem au.mono{R':α->β->Prop}(hf:∀x y,R x y->R' x y){l:List α}{q:List β}(h:au R l q):au R' l q:=by induction h with|nil=>exact .nil|cons h _ D=>exact .cons (hf _ _ h) D
theorem au.app{l D:List α}{q F:List β}(h:au R l q)(h':au R D F):au R (l++D) (q++F):=by induction h with|nil=>exact h'|cons h _ J=>exact .cons h J
theorem au.take{l:List α}{q:List β}(h:au R l q):∀n:Nat,au R (l.take n) (q.take n):=by
 induction h with
 |nil=>intro n;simp;exact .nil
 |cons h _ D=>intro n;cases n with|zero=>exact .nil|succ n=>exact .cons h (D n)
theorem au.drop{l:List α}{q:List β}(h:au R l q):∀n:Nat,au R (l.drop n) (q.drop n):=by
 induction h with
 |nil=>intro n;simp;exact .nil
 |cons h t D=>intro n;cases n with|zero=>exact .cons h t|succ n=>exact D n
end
def Rw(o:aR)(n:Option Nat)(D:Nat->Prop):Prop:= ∃hs ty wd,cX o=some (hs,ty,wd)/\∀m,n=some m->m<=bc o/\(m=bc o->D wd)
def PV(p:PK)(n wd:Nat)(m v:Value):Prop:=
 match p with
 |.all=>v=m
 |.el i j=>i<n/\∃b cap,m=.slice (some ⟨b,0,none⟩) n cap/\v=.pointer (some ⟨b,i*wd+j,none⟩)
 |.nJ i=>i<=n/\0<n/\∃b cap,m=.slice (some ⟨b,0,none⟩) n cap/\v=.slice (some ⟨b,if cap=i then 0 else i*wd,none⟩) (n-i) (cap-i)
 |.tb j=>0<n/\∃b cap,m=.slice (some ⟨b,0,none⟩) n cap/\v=.pointer (some ⟨b,(n-1)*wd+j,none⟩)
def Ref(h:Hp)(k:Nat)(D:aR->Prop):Prop:= ∃o,h k=some o/\D o
def LCR(A:Nat->Nat->Prop)(w:World)(v:Value):LC->Prop
 |.v t x=>lS t=true/\TR A w t (λ_ u=>u=v) x
 |.nil=>v=.slice none 0 0
def CR(c:Cx)(h:Hp)(w:World)(v:Value):DC->Prop
 |.dead=>v.oneCell'=true
 |.kb b=>v=.bool b
 |.v t x=>lS t=true/\TR c.A w t (λ_ u=>u=v) x
 |.nil=>v=.slice none 0 0
 |.np=>v=.pointer none
 |.z=>∃a,v=.slice a 0 0
 |.mH f=>v=.func (.func f) #[] #[]
 |.nf=>v=.nilFunc
 |.ow k g p=>v.oneCell'=true/\Ref h k λo=>∃n,cD o g=some n/\Rw o n λwd=>PV p (bc o) wd (c.m k) v
 |.ptr k i=>v.oneCell'=true/\Ref h k λo=>(∃ty cells,o=.var ty cells)/\∃b,c.m k=.pointer (some ⟨b,0,none⟩)/\v=.pointer (some ⟨b,i,none⟩)
 |.el t x j=>∃b o,v=.pointer (some ⟨b,o+j,none⟩)/\TR c.A w t (Fz c.A w b o) x
 |.A6 l=>∃b o cap,v=.slice (some ⟨b,o,none⟩) 1 cap/\1<=cap/\cap<=maxLen/\∀i x,l[i]? =some x->∃u,Fz c.A w b o i u/\LCR c.A w u x
theorem TR.one{A:Nat->Nat->Prop}{w:World}{t:Ty}{v:Value}{x:den t}(hs:lS t=true)(h:TR A w t (λ_ u=>u=v) x):v.oneCell'=true:=by
 cases t with
 |pair|unit=>cases hs
 |sl t=>obtain⟨_,_,rfl,_⟩:=h;rfl
 |ptr t=>obtain⟨_,_,rfl,_⟩:=h;rfl
 |opt t=>cases x with
  |none=>have h:=h;subst h;rfl
  |some x=>obtain⟨_,_,rfl,_⟩:=h;rfl
 |_=>have h:=h;subst h;rfl
theorem CR.one{c:Cx}{h:Hp}{w:World}{v:Value}{x:DC}(D:CR c h w v x):v.oneCell'=true:=by
 cases x with
 |v t x=>exact D.2.one D.1
 |ow|ptr=>exact D.1
 |z=>obtain⟨_,rfl⟩:=D;rfl
 |el=>obtain⟨_,_,rfl,_⟩:=D;rfl
 |A6=>obtain⟨_,_,_,rfl,_⟩:=D;rfl
 |dead=>exact D
 |_=>have D:=D;subst D;rfl
def OL(s:Bool)(m:Value)(o:aR)(D:Value)(o':aR):Prop:=
 match cX o,o with
 |some (hs,ty,wd),_=>∃F,cX o'=some (F,ty,wd)/\((∀g n,cD o g=some n->cD o' g=some n)/\(bc o'=bc o/\D=m\/bc o<bc o')\/s=true/\∀g n,cD o g=some n->cD o' g=some none)
 |_,.var ty _=>(∃cells,o'=.var ty cells)/\D=m
 |_,_=>False
theorem OL.refl(s:Bool)(m:Value)(o:aR):OL s m o m o:=by
 cases o with
 |var ty l=>exact⟨⟨_,rfl⟩,rfl⟩
 |_=>exact⟨_,rfl,.inl ⟨λ_ _ h=>h,.inl ⟨rfl,rfl⟩⟩⟩
theorem OL.trans{s:Bool}{m F J:Value}{o o' L:aR}(h:OL s m o F o')(h':OL s F o' J L):OL s m o J L:=by
 cases o with
 |var ty l=>obtain⟨⟨q,rfl⟩,rfl⟩:=h;exact h'
 |_=>
  obtain⟨hs,e,h1⟩:=h;unfold OL at h'⊢;rw[e]at h';obtain⟨N,M,D⟩:=h';refine⟨N,M,?_⟩;rcases h1 with⟨h1,h2⟩|⟨hs,h1⟩<;>rcases D with⟨D,O⟩|⟨hs,D⟩
  ·grind
  ·grind
  ·exact .inr ⟨hs,λg n q=>D g _ (h1 g n q)⟩
  ·exact .inr ⟨hs,λg n q=>D g _ (h1 g n q)⟩
theorem OL.up{s:Bool}{m D:Value}{o o':aR}(h:OL s m o D o'):OL true m o D o':=by
 unfold OL at h⊢;split at h
 ·grind
 ·omega
 ·omega
def PL(m:Value)(o:aR)(D:Value)(o':aR):Prop:=
 match cX o,o with
 |some (_,ty,wd),_=>∃F,cX o'=some (F,ty,wd)/\(bc o'=bc o/\D=m\/bc o<bc o')
 |_,.var ty _=>(∃cells,o'=.var ty cells)/\D=m
 |_,_=>False
theorem PL.trans{m D F:Value}{o o' J:aR}(h:PL m o D o')(h':PL D o' F J):PL m o F J:=by
 cases o with
 |var ty l=>obtain⟨⟨q,rfl⟩,rfl⟩:=h;exact h'
 |_=>
  obtain⟨hs,e,h2⟩:=h;unfold PL at h'⊢;rw[e]at h';obtain⟨M,L,N⟩:=h';refine⟨M,L,?_⟩
  ·grind
theorem OL.pl{m D:Value}{o o':aR}(h:OL false m o D o'):PL m o D o':=by
 unfold OL at h;unfold PL;split at h
 ·grind
 ·omega
 ·omega
structure eN(c:Cx)(h:Hp)(w:World)(c':Cx)(h':Hp)(w':World):Prop where
 obj:∀k o,h k=some o->∃o',h' k=some o'/\OL true (c.m k) o (c'.m k) o'
 cell:uE c.A w c'.A w'
theorem eN.refl(c:Cx)(h:Hp)(w:World):eN c h w c h w:=⟨λk o e=>⟨o,e,OL.refl _ _ _⟩,λ_ _ _ h1 h2=>⟨h1,h2⟩⟩
theorem eN.trans{c c' D:Cx}{h h' F:Hp}{w w' L:World}(l:eN c h w c' h' w')(J:eN c' h' w' D F L):eN c h w D F L:=by
 refine⟨λk o e=>?_,λb i v h1 h2=>?_⟩
 ·obtain⟨Y,M,h1⟩:=l.obj k o e;obtain⟨Z,N,h2⟩:=J.obj k Y M;exact⟨Z,N,h1.trans h2⟩
 ·obtain⟨O,U⟩:=l.cell _ _ _ h1 h2;exact J.cell _ _ _ O U
theorem Rw.ol{s:Bool}{m N:Value}{o o':aR}{g:Nat}{p:PK}{v:Value}(J:OL s m o N o')(O:∃n,cD o g=some n/\Rw o n λwd=>PV p (bc o) wd m v):∃n,cD o' g=some n/\Rw o' n λwd=>PV p (bc o') wd N v:=by
 obtain⟨n,h0,hs,ty,wd,h1,h2⟩:=O;unfold OL at J;rw[h1]at J;obtain⟨M,e,⟨D,F⟩|⟨_,D⟩⟩:=J
 ·refine⟨n,D _ _ h0,M,ty,wd,e,λq L=>?_⟩;obtain⟨U,Y⟩:=h2 q L;rcases F with⟨F,Z⟩|F
  ·grind
  ·omega
 ·exact⟨none,D _ _ h0,M,ty,wd,e,λq L=>by cases L⟩
theorem Ref.fM{c c':Cx}{h h':Hp}{w w':World}(M:eN c h w c' h' w'){k:Nat}{F J:aR->Prop}(N:∀o o',OL true (c.m k) o (c'.m k) o'->F o->J o')(D:Ref h k F):Ref h' k J:=by obtain⟨o,e,D⟩:=D;obtain⟨o',L,h1⟩:=M.obj k o e;exact⟨o',L,N _ _ h1 D⟩
theorem CR.fM{c c':Cx}{h h':Hp}{w w':World}(F:eN c h w c' h' w'){v:Value}{x:DC}(D:CR c h w v x):CR c' h' w' v x:=by
 cases x with
 |v t x=>exact⟨D.1,D.2.mono F.cell t (λ_ _ h=>h)⟩
 |ow k g p=>exact⟨D.1,D.2.fM F λo o' N h2=>Rw.ol N h2⟩
 |ptr k i=>exact⟨D.1,D.2.fM F λo o' N ⟨⟨ty,q,h1⟩,h2⟩=>by subst h1;obtain⟨⟨Y,J⟩,L⟩:=N;exact⟨⟨ty,Y,J⟩,by rw[L];exact h2⟩⟩
 |el t x j=>obtain⟨b,o,h1,h2⟩:=D;exact⟨b,o,h1,h2.mono F.cell t λi v q=>F.cell _ _ _ q.1 q.2⟩
 |A6 l=>
  obtain⟨b,o,cap,h1,h2,J,L⟩:=D;refine⟨b,o,cap,h1,h2,J,λi x U=>?_⟩;obtain⟨u,O,M⟩:=L i x U;refine⟨u,F.cell _ _ _ O.1 O.2,?_⟩;cases x with
  |v t x=>exact⟨M.1,M.2.mono F.cell t λ_ _ h=>h⟩
  |nil=>exact M
 |_=>exact D
def UR(c:Cx)(h:Hp)(w:World)(v:Value):Sum DC (List DC)->Prop
 |.inl x=>CR c h w v x
 |.inr l=>∃vs:List Value,v=.agg vs.toArray/\au (CR c h w) vs l
def SR(c:Cx)(h:Hp)(w:World)(v:Value):DS->Prop
 |.dead=>True
 |.c x=>CR c h w v x
 |.agg l=>∃vs:List Value,v=.agg vs.toArray/\au (CR c h w) vs l
 |.eR l=>∃vs:List Value,v=.tuple vs.toArray/\au (UR c h w) vs l
 |.fn f a b=>∃vs us:List Value,v=.func f vs.toArray us.toArray/\au (CR c h w) vs a/\au (CR c h w) us b
theorem SR.imp{c c':Cx}{h h':Hp}{w w':World}(D:∀v x,CR c h w v x->CR c' h' w' v x){v:Value}{x:DS}(F:SR c h w v x):SR c' h' w' v x:=by
 have J:∀{l:List DC} {v:Value},(∃vs:List Value,v=.agg vs.toArray/\au (CR c h w) vs l)->∃vs:List Value,v=.agg vs.toArray/\au (CR c' h' w') vs l:=λ⟨vs,h1,h2⟩=>⟨vs,h1,h2.mono D⟩;cases x with
 |dead=>trivial
 |c x=>exact D _ _ F
 |agg l=>exact J F
 |eR l=>
  obtain⟨vs,h1,h2⟩:=F;refine⟨vs,h1,h2.mono λv x L=>?_⟩;cases x with
  |inl x=>exact D _ _ L
  |inr l=>exact J L
 |fn f a b=>obtain⟨vs,us,h1,h2,M⟩:=F;exact⟨vs,us,h1,h2.mono D,M.mono D⟩
theorem SR.fM{c c':Cx}{h h':Hp}{w w':World}(D:eN c h w c' h' w'){v:Value}{x:DS}(F:SR c h w v x):SR c' h' w' v x:=F.imp λ_ _=>CR.fM D
def CG(c:Cx)(h:Hp)(w:World)(g:Nat->Value->Prop)(l:List DC):Prop:= ∀i x,l[i]? =some x->∃v,g i v/\CR c h w v x
theorem CG.app{c:Cx}{h:Hp}{w:World}{g:Nat->Value->Prop}{l q:List DC}:CG c h w g (l++q)<->CG c h w g l/\CG c h w (λi=>g (l.length+i)) q:=by
 refine⟨λJ=>⟨λi x D=>J i x ?_,λi x D=>J _ x ?_⟩,λ⟨h1,h2⟩ i x D=>?_⟩
 ·grind
 ·grind
 ·rcases Nat.lt_or_ge i l.length with F|F
  ·rw[aD9 F]at D;exact h1 i x D
  ·rw[aI8 F]at D;obtain⟨v,L,M⟩:=h2 _ x D;grind
theorem TR.lS{A:Nat->Nat->Prop}{w:World}{t:Ty}(hs:lS t=true){g:Nat->Value->Prop}{x:den t}:TR A w t g x<->∃v,g 0 v/\TR A w t (λ_ u=>u=v) x:=by
 cases t with
 |pair|unit=>cases hs
 |sl t=>exact⟨λ⟨a,cap,h1,h2⟩=>⟨_,h1,a,cap,rfl,h2⟩,λ⟨_,h0,a,cap,h1,h2⟩=>⟨a,cap,h1▸h0,h2⟩⟩
 |ptr t=>exact⟨λ⟨b,o,h1,h2⟩=>⟨_,h1,b,o,rfl,h2⟩,λ⟨_,h0,b,o,h1,h2⟩=>⟨b,o,h1▸h0,h2⟩⟩
 |opt t=>
  cases x with
  |none=>exact⟨λh=>⟨_,h,rfl⟩,λ⟨v,h,e⟩=>by have e:=e;subst e;exact h⟩
  |some x=>exact⟨λ⟨b,o,h1,h2⟩=>⟨_,h1,b,o,rfl,h2⟩,λ⟨_,h0,b,o,h1,h2⟩=>⟨b,o,h1▸h0,h2⟩⟩
 |_=>exact⟨λh=>⟨_,h,rfl⟩,λ⟨v,h,e⟩=>by have e:=e;subst e;exact h⟩
theorem CG.tr{c:Cx}{h:Hp}{w:World}:(t:Ty)->∀{g:Nat->Value->Prop} {x:den t},CG c h w g (cA t x)<->TR c.A w t g x:=by
 intro t
 induction t with
 |pair a b L M=>intro g x;show CG c h w g (cA a x.1++cA b x.2)<->_;rw[CG.app,L,ja,M];rfl
 |unit=>intro g x;exact⟨λ_=>trivial,λ_ i x J=>by cases J⟩
 |_=>
  intro g x;rw[TR.lS rfl];refine⟨λF=>?_,λ⟨v,h1,h2⟩ i y D=>?_⟩
  ·obtain⟨v,h1,_,h2⟩:=F 0 _ rfl;grind
  ·cases i with
   |zero=>cases D;exact⟨v,h1,rfl,h2⟩
   |succ i=>cases D
theorem CG.part{c:Cx}{h:Hp}{w:World}{g:Nat->Value->Prop}{l q r:List DC}{i:Nat}(F:CG c h w g l)(e:l.drop i=q++r):CG c h w (λj=>g (i+j)) q:=λj x D=>F _ x (by rw[<-List.getElem?_drop,e,aD9 (ay9.1 D).1];exact D)
theorem CG.flat{c:Cx}{h:Hp}{w:World}{t:Ty}:∀{l:List (den t)} {g:Nat->Value->Prop},CG c h w g (aQ t l)<->∀i x,l[i]? =some x->TR c.A w t (λj=>g (i*wid t+j)) x
 |[],g=>⟨λ_ i x D=>(by grind),λ_ i x D=>(by cases D)⟩
 |y::l,g=>by
  show CG c h w g (cA t y++aQ t l)<->_;rw[CG.app,CG.tr,CG.flat,ja];refine⟨λ⟨h1,h2⟩ i x D=>?_,λD=>⟨by simpa using D 0 y rfl,λi x F=>by simpa[aA0,aB6,Nat.add_left_comm]using D (i+1) x F⟩⟩
  cases i with
  |zero=>grind
  |succ i=>grind
theorem CG.list{c:Cx}{h:Hp}{w:World}:∀{l:List DC} {g:Nat->Value->Prop},CG c h w g l->∃vs,au (CR c h w) vs l/\∀(i:Nat) v,vs[i]? =some v->g i v
 |[],g,_=>⟨[],.nil,λi v M=>(by grind)⟩
 |x::l,g,D=>by
  obtain⟨v,h1,h2⟩:=D 0 x rfl;obtain⟨vs,F,L⟩:=CG.list (l:=l) (g:=λi=>g (i+1)) λi x J=>D (i+1) x J;refine⟨v::vs,.cons h2 F,λi u hu=>?_⟩;cases i with
  |zero=>grind
  |succ i=>grind
theorem CG.of{c:Cx}{h:Hp}{w:World}{vs:List Value}{l:List DC}{g:Nat->Value->Prop}(D:au (CR c h w) vs l)(F:∀(i:Nat) v,vs[i]? =some v->g i v):CG c h w g l:=λi x J=>by obtain⟨v,h1,h2⟩:=D.get J;exact⟨v,F i v h1,h2⟩
def bK{α:Type}(f:Nat->α)(k:Nat)(v:α)(j:Nat):α:=if j=k then v else f j
theorem fh{α:Type}(f:Nat->α)(k:Nat)(v:α):bK f k v k=v:=if_pos rfl
theorem gP{α:Type}{f:Nat->α}{k j:Nat}{v:α}(h:j≠k):bK f k v j=f j:=if_neg h
def dZ:Value->Option Nat
 |.pointer (some a)=>some a.block
 |.slice (some a) _ (_+1)=>some a.block
 |_=>none
theorem uj{b l cap D:Nat}(h:dZ (.slice (some ⟨b,0,none⟩) l cap)=some D):D=b:=by
 cases cap with
 |zero=>cases h
 |succ cap=>injection h with h;grind
def eB(w:World)(e:TypeId)(n:Nat)(v:Value)(m:Nat)(xs:List Value):Prop:=
 (∃a,v=.slice a 0 0/\m=0/\xs=[])\/
 ∃g cap cur,v=.slice (some ⟨g,0,none⟩) m (cap+1)/\w.heap[g]? =some (.cells cur e (0,0))/\m<=cap+1/\cap+1<=maxLen/\cur.size=(cap+1)*n/\cur.toList.take (m*n)=xs
theorem eB.of{w:World}{e:TypeId}{n m b:Nat}{v:Value}{xs:List Value}(h:w.ownsRow b e n v m xs):eB w e n v m xs:=by
 rcases h with⟨h1,⟨rfl,rfl⟩|⟨g,cap,cur,rfl,_,h2,F,J,L,D⟩⟩
 ·exact .inl ⟨none,rfl,rfl,az2.1 (by grind)⟩
 ·cases cap with
  |zero=>
   obtain rfl:m=0:=by omega
   exact .inl ⟨_,rfl,rfl,by rw[<-D];simp⟩
  |succ cap=>exact .inr ⟨g,cap,cur,rfl,h2,F,J,L,D⟩
theorem eB.len{w:World}{e:TypeId}{n m:Nat}{v:Value}{xs:List Value}(h:eB w e n v m xs):xs.length=m*n:=by
 rcases h with⟨a,_,rfl,rfl⟩|⟨g,cap,cur,_,_,D,_,J,F⟩
 ·simp
 ·rw[<-F];have:m*n<=(cap+1)*n:=az8 _ D;grind
theorem wc{w:World}{b:Nat}{o:Obj}(h:w.heap[b]? =some o):b<w.heap.size:=by grind
abbrev iQ:TypeId:=4294967295
def UL(ty:TypeId)(cs:Array Value):Obj:=
 match au9 ty iQ,cs.toList with
 |true,[.string s,.int _ p]=>.stringIter s p.toNat
 |_,_=>.cells cs ty (0,0)
theorem ua{ty:TypeId}(h:au9 ty iQ=false)(cs:Array Value):UL ty cs=.cells cs ty (0,0):=by grind[UL]
def nG(c:Cx)(h:Hp)(w:World)(k:Nat):aR->Prop
 |.var ty cells=>∃b cs,c.m k=.pointer (some ⟨b,0,none⟩)/\w.heap[b]? =some (UL ty cs)/\au (CR c h w) cs.toList cells
 |o=>∃hs ty n xs,cX o=some (hs,ty,n)/\0<n/\eB w ty n (c.m k) (bc o) xs/\au (CR c h w) xs (dT o)
theorem nG.lt{c:Cx}{h:Hp}{w:World}{k:Nat}{o:aR}(F:nG c h w k o){b:Nat}(D:dZ (c.m k)=some b):b<w.heap.size:=by
 have key:∀{m e n l xs},eB w e n m l xs->dZ m=some b->b<w.heap.size:=λJ D=>by
  rcases J with⟨a,e,_⟩|⟨g,cap,cur,e,h2,_⟩
  ·rw[e]at D;cases a<;>cases D
  ·rw[e]at D;cases D;grind
 cases o with
 |var ty l=>obtain⟨L,cs,h1,h2,_⟩:=F;rw[h1]at D;cases D;grind
 |_=>obtain⟨_,_,_,_,_,_,h1,_⟩:=F;grind
theorem nG.imp{c c':Cx}{h h':Hp}{w w':World}(L:∀v x,CR c h w v x->CR c' h' w' v x){k:Nat}{o:aR}(hm:c'.m k=c.m k)(D:∀b,dZ (c.m k)=some b->w'.heap[b]? =w.heap[b]?)(M:nG c h w k o):nG c' h' w' k o:=by
 have key:∀{m e n l xs},eB w e n m l xs->(∀b,dZ m=some b->w'.heap[b]? =w.heap[b]?)->eB w' e n m l xs:=λY D=>by
  rcases Y with e|⟨g,cap,cur,J,N,O⟩
  ·exact .inl e
  ·exact .inr ⟨g,cap,cur,J,by rw[D g (J▸rfl)];exact N,O⟩
 cases o with
 |var ty l=>obtain⟨b,cs,h1,h2,F⟩:=M;exact⟨b,cs,hm.trans h1,(D b (h1▸rfl)).trans h2,F.mono L⟩
 |_=>obtain⟨hs,ty,n,xs,h1,h2,F,U⟩:=M;exact⟨hs,ty,n,xs,h1,h2,by rw[hm];exact key F D,U.mono L⟩
def Bl(c:Cx)(h:Hp)(k b:Nat):Prop:=(∃o,h k=some o)/\dZ (c.m k)=some b
structure Ext(F:Nat->Prop)(w w':World):Prop where
 os:w'.os=w.os
 tape:w'.tape=w.tape
 output:w'.output=w.output
 size:w.heap.size<=w'.heap.size
 block:∀b,b<w.heap.size->¬F b->w'.heap[b]? =w.heap[b]?
theorem Ext.trans{F D:Nat->Prop}{w w' J:World}(h:Ext F w w')(h':Ext D w' J)(L:∀b,b<w.heap.size->D b->F b):Ext F w J:=
 ⟨h'.os.trans h.os,h'.tape.trans h.tape,h'.output.trans h.output,aw8 h.size h'.size,λb h1 h2=>(h'.block b (aA5 h1 h.size) λq=>h2 (L b h1 q)).trans (h.block b h1 h2)⟩
abbrev gv(w w':World):Prop:=Ext (λ_=>False) w w'
theorem Ext.refl(F:Nat->Prop)(w:World):Ext F w w:=⟨rfl,rfl,rfl,at9 _,λ_ _ _=>rfl⟩
theorem Ext.mono{F D:Nat->Prop}{w w':World}(h:Ext F w w')(J:∀b,F b->D b):Ext D w w':=⟨h.os,h.tape,h.output,h.size,λb h1 h2=>h.block b h1 λq=>h2 (J b q)⟩
theorem gv.qv{w w':World}(h:Below w.heap.size w w'):gv w w':=⟨h.os,h.tape,h.output,h.size,λb D _=>h.block b D⟩
theorem gv.below{w w':World}(h:gv w w'):Below w.heap.size w w':=⟨h.os,h.tape,h.output,h.size,λb D=>h.block b D id⟩
theorem Ext.cell{F:Nat->Prop}{w w':World}(h:Ext F w w'){b i:Nat}{v:Value}(D:¬F b)(hc:w.cell? ⟨b,i,none⟩=some v):w'.cell? ⟨b,i,none⟩=some v:=by rw[World.cell?_of_block (w:=w) (a:=⟨b,i,none⟩) (h.block b (World.block_lt_of_cell? w _ hc) D)];exact hc
def dw(k:Nat):Bool:=Nat.ble 3000 k&&Nat.blt k 5000
theorem S9{k:Nat}:dw k=true<->3000<=k/\k<5000:=by simp[dw]
theorem acx{k:Nat}(h:k<3000\/5000<=k):dw k=false:=by
 cases e:dw k with
 |false=>rfl
 |true=>have:=S9.1 e;omega
structure cP where
 w:World
 A:Nat->Nat->Prop
 F:Nat->Prop
 Z:Nat->Prop
 m:Nat->Value
 H:Hp
 df:List Deferred
def tabB:Nat:=4
def TabOk(o:Option Obj):Prop:= ∃e D,o=some (.cells (Lib.pow10Tab.map λz=>Value.int .u64 z).toArray e D)
def acT(E:cP):Prop:=(∀b i,E.A b i->¬E.F b/\¬E.Z b)/\¬E.F tabB/\TabOk E.w.heap[tabB]? /\¬E.Z tabB/\∀b,E.Z b->¬E.F b/\b<E.w.heap.size
def afs(E:cP)(k b:Nat):Prop:=(dw k=true/\E.Z b)\/(dw k=false/\(E.F b\/E.w.heap.size<=b))
theorem TabOk.lt{w:World}(h:TabOk w.heap[tabB]?):tabB<w.heap.size:=by obtain⟨e,D,h⟩:=h;exact wc h
structure Conc(E:cP)(c:Cx)(h:Hp)(w:World):Prop where
 obj:∀k o,h k=some o->nG c h w k o
 inj:∀k k' b,Bl c h k b->Bl c h k' b->k=k'
 kZ:∀k b i,Bl c h k b->¬c.A b i
 lt:∀b i,c.A b i->b<w.heap.size
 ko:acT E
 le:∀b i,E.A b i->c.A b i
 new:∀b i,c.A b i->E.A b i\/E.w.heap.size<=b\/E.F b
 own:∀k b,Bl c h k b->afs E k b
 ext:Ext E.F E.w w
 ga:∀k o,E.H k=some o->(1000<=k/\k<3000)/\∃o',h k=some o'/\PL (E.m k) o (c.m k) o'
section
variable {E:cP} {c:Cx} {h:Hp} {w:World}
theorem Conc.OB(hC:Conc E c h w):TabOk w.heap[tabB]? :=by rw[hC.ext.block _ hC.ko.2.2.1.lt hC.ko.2.1];exact hC.ko.2.2.1
theorem Conc.ac5(hC:Conc E c h w){k:Nat}(D:Bl c h k tabB):False:=by
 rcases hC.own k _ D with⟨_,q⟩|⟨_,q|q⟩
 ·exact hC.ko.2.2.2.1 q
 ·exact hC.ko.2.1 q
 ·have:=hC.ko.2.2.1.lt;omega
theorem Conc.fr(hC:Conc E c h w){k b:Nat}(hk:dw k=false)(D:Bl c h k b):E.F b\/E.w.heap.size<=b:=by
 rcases hC.own k b D with⟨q,_⟩|⟨_,q⟩
 ·grind
 ·omega
theorem Conc.blt(hC:Conc E c h w){k b:Nat}(F:Bl c h k b):b<w.heap.size:=by obtain⟨⟨o,h1⟩,D⟩:=F;exact(hC.obj k o h1).lt D
theorem Conc.put(hC:Conc E c h w)(k:Nat){o':aR}{c':Cx}{h':Hp}{w':World}(U:h' k=some o')(J:∀j,j≠k->h' j=h j/\c'.m j=c.m j)(F:c'.A=c.A)(M:Ext (Bl c h k) w w')(hm:∀b,dZ (c'.m k)=some b->Bl c h k b\/w.heap.size<=b)(ah:dw k=false\/w'=w)
  {s:Bool} (hs:s=true->E.H k=none) (hl:∀o,h k=some o->OL s (c.m k) o (c'.m k) o') (ho:eN c h w c' h' w'->nG c' h' w' k o'):Conc E c' h' w'/\eN c h w c' h' w':=by
 have O:eN c h w c' h' w':=by
  refine⟨λj o e=>?_,λb i v h1 h2=>⟨by rw[F];exact h1,M.cell (λq=>hC.kZ k b i q h1) h2⟩⟩
  by_cases q:j=k
  ·subst q;exact⟨o',U,(hl o e).up⟩
  ·exact⟨o,(J j q).1.trans e,by rw[(J j q).2];exact OL.refl _ _ _⟩
 have L:∀j b,Bl c' h' j b->Bl c h j b\/(j=k/\w.heap.size<=b):=λj b ⟨h1,h3⟩=>by grind[Bl]
 refine⟨⟨λj o e=>?_,λj j' b h1 h2=>?_,λj b i h1 h2=>?_,λb i e=>?_,hC.ko,?_,?_,λj b h1=>?_,?_,λj o e=>⟨(hC.ga j o e).1,?_⟩⟩,O⟩
 ·by_cases q:j=k
  ·grind
  ·rw[(J j q).1]at e;have Z:=hC.obj j o e;exact Z.imp (λ_ _=>CR.fM O) (J j q).2 λb Y=>M.block b (Z.lt Y) λz=>q (hC.inj j k b ⟨⟨_,e⟩,Y⟩ z)
 ·rcases L j b h1 with D|⟨D,a2⟩<;>rcases L j' b h2 with N|⟨N,b2⟩
  ·exact hC.inj j j' b D N
  ·have:=hC.blt D;omega
  ·have:=hC.blt N;omega
  ·omega
 ·rw[F]at h2;rcases L j b h1 with D|⟨_,a2⟩
  ·exact hC.kZ j b i D h2
  ·have:=hC.lt b i h2;omega
 ·rw[F]at e;exact aA5 (hC.lt b i e) M.size
 ·rw[F];exact hC.le
 ·rw[F];exact hC.new
 ·rcases L j b h1 with D|⟨D,a2⟩
  ·exact hC.own j b D
  ·subst D;rcases ah with q|q
   ·exact .inr ⟨q,.inr (aw8 hC.ext.size a2)⟩
   ·have:=(ho O).lt h1.2;grind
 ·rcases ah with q|q
  ·exact hC.ext.trans M λb h1 h2=>(hC.fr q h2).resolve_right (by omega)
  ·rw[q];exact hC.ext
 ·obtain⟨o1,h1,h2⟩:=(hC.ga j o e).2;by_cases q:j=k
  ·subst q;cases s with
   |true=>grind
   |false=>exact⟨o',U,h2.trans (hl _ h1).pl⟩
  ·grind
theorem Conc.AV(hC:Conc E c h w){c':Cx}{h':Hp}(hk:∀k o',h' k=some o'->nG c' h' w k o'/\∀b,dZ (c'.m k)=some b->Bl c h k b)(h1:∀b i,c.A b i->c'.A b i)
  (h2:∀b i,c'.A b i->c.A b i\/∃k,Bl c h k b/\h' k=none/\dw k=false) (hp:∀k o,E.H k=some o->∃o',h' k=some o'/\PL (E.m k) o (c'.m k) o'):Conc E c' h' w:=by
 have F:∀k b,Bl c' h' k b->Bl c h k b:=λk b ⟨⟨o,e⟩,M⟩=>(hk k o e).2 b M;refine⟨λk o e=>(hk k o e).1,λk J b e L=>hC.inj k J b (F _ _ e) (F _ _ L),λk b i e L=>?_,λb i e=>?_,hC.ko,λb i e=>h1 _ _ (hC.le _ _ e),λb i e=>?_,λk b e=>hC.own k b (F _ _ e),hC.ext,λk o e=>⟨(hC.ga k o e).1,hp k o e⟩⟩
 ·rcases h2 b i L with D|⟨J,D,U,_⟩
  ·exact hC.kZ k b i (F _ _ e) D
  ·obtain rfl:=hC.inj k J b (F _ _ e) D;obtain⟨⟨o,O⟩,_⟩:=e;grind
 ·rcases h2 b i e with D|⟨J,D,_⟩
  ·exact hC.lt b i D
  ·exact hC.blt D
 ·rcases h2 b i e with D|⟨J,D,_,N⟩
  ·exact hC.new b i D
  ·exact .inr (hC.fr N D).symm
theorem Conc.A9(hC:Conc E c h w){w':World}(J:gv w w')(F:Nat->Nat->Prop)(h1:∀b i,c.A b i->F b i)(h2:∀b i,F b i->c.A b i\/(w.heap.size<=b/\b<w'.heap.size)):Conc E ⟨c.m,F⟩ h w'/\eN c h w ⟨c.m,F⟩ h w':=by
 have M:eN c h w ⟨c.m,F⟩ h w':=⟨λk o e=>⟨o,e,OL.refl _ _ _⟩,λb i v O U=>⟨h1 _ _ O,J.cell id U⟩⟩;refine⟨⟨λk o e=>?_,hC.inj,λk b i e N=>?_,λb i e=>?_,hC.ko,λb i e=>h1 _ _ (hC.le _ _ e),λb i e=>?_,hC.own,hC.ext.trans J λ_ _ q=>q.elim,hC.ga⟩,M⟩
 ·have L:=hC.obj k o e;exact L.imp (λ_ _=>CR.fM M) rfl λb Y=>J.block b (L.lt Y) id
 ·rcases h2 _ _ N with D|D
  ·exact hC.kZ k b i e D
  ·have:=hC.blt (show Bl c h k b from e);omega
 ·rcases h2 _ _ e with D|D
  ·exact aA5 (hC.lt _ _ D) J.size
  ·omega
 ·rcases h2 _ _ e with D|D
  ·exact hC.new _ _ D
  ·exact .inr (.inl (aw8 hC.ext.size D.1))
theorem Conc.same(hC:Conc E c h w){w':World}(D:gv w w'):Conc E c h w'/\eN c h w c h w':=hC.A9 D c.A (λ_ _ h=>h) λ_ _ h=>.inl h
end
abbrev cG:=List (Nat×DS)
abbrev ax:=List (Nat×aR)
structure aF where
 sl:cG
 hp:ax
def bM:cG->Nat->DS
 |[],_=>.dead
 |(D,o)::h,k=>if D=k then o else bM h k
def oB:cG->Nat->DS->cG
 |[],k,o=>[(k,o)]
 |(D,o')::h,k,o=>if D=k then(k,o)::h else(D,o')::oB h k o
def nr(s:cG)(d:Option Tmp)(v:DS):cG:=match d with|some d=>oB s d v|none=>s
def aj:ax->Hp
 |[],_=>none
 |(D,o)::h,k=>if D=k then some o else aj h k
def oset:ax->Nat->aR->ax
 |[],k,o=>[(k,o)]
 |(D,o')::h,k,o=>if D=k then(k,o)::h else(D,o')::oset h k o
theorem ij(h:ax)(k:Nat)(o:aR):aj (oset h k o)=bK (aj h) k (some o):=by
 funext j
 induction h with
 |nil=>simp [oset,aj,bK,eq_comm]
 |cons p t D=>
  obtain⟨q,u⟩:=p;unfold oset aj;by_cases h:q=k
  ·subst h;simp[aj,bK];grind
  ·simp[if_neg h,aj,D,bK];by_cases h2:q=j
   ·grind
   ·grind
def iA{α:Type}(f:Nat->α)(d:Option Nat)(v:α):Nat->α:=match d with|some d=>bK f d v|none=>f
theorem Fc(s:cG)(d:Option Tmp)(v:DS):bM (nr s d v)=iA (bM s) d v:=by
 cases d with
 |none=>rfl
 |some k=>
  funext j;show bM (oB s k v) j=bK (bM s) k v j
  induction s with
  |nil=>simp [oB,bM,bK,eq_comm]
  |cons p t D=>
   obtain⟨q,u⟩:=p;unfold oB bM;by_cases h:q=k
   ·subst h;simp[bM,bK];grind
   ·simp[if_neg h,bM,D,bK];by_cases h2:q=j
    ·grind
    ·grind
def J(c:Prop)[Decidable c]{R:Type}(k:Option R):Option R:=if c then k else none
def ag{α:Type}(l:List α)(i:Int):Option α:=if 0<=i then l[i.toNat]? else none
def ab(k:IntKind)(n:Int):Prop:=k.min<=n/\n<=k.max
theorem Mg(n:Int):ab .i64 n=(-9223372036854775808<=n/\n<=9223372036854775807):=rfl
theorem ud(n:Int):ab .u8 n=(0<=n/\n<=255):=rfl
theorem To(n:Int):ab .u32 n=(0<=n/\n<=4294967295):=rfl
theorem arn(n:Int):ab .u64 n=(0<=n/\n<=18446744073709551615):=rfl
theorem RX{k:IntKind}{n:Int}(h:ab k n):k.wrap n=n:=by unfold ab at h;cases k<;>simp [IntKind.min,IntKind.max,av4,IntKind.bits,IntKind.signed]at h⊢ <;>(try split)<;>omega
def adH(k:IntKind)(n:Int):Bool:=match k,n with
 |.i64,.ofNat m=>Nat.ble m 9223372036854775807
 |.i64,.negSucc m=>Nat.ble m 9223372036854775807
 |.u64,.ofNat m=>Nat.ble m 18446744073709551615
 |.u64,.negSucc _=>false
 |.u32,.ofNat m=>Nat.ble m 4294967295
 |.u32,.negSucc _=>false
 |.u8,.ofNat m=>Nat.ble m 255
 |.u8,.negSucc _=>false
 |k,n=>decide (k.min<=n/\n<=k.max)
theorem apW{k:IntKind}{n:Int}:adH k n=true<->ab k n:=by
 unfold adH;split
 all_goals simp[Mg,ud,To,arn]
 all_goals first|omega|exact Iff.rfl
instance instDecidableInK (k:IntKind) (n:Int):Decidable (ab k n):=decidable_of_iff _ apW
def nI(P:Program)(ty:TypeId):Option (Bool×Nat):=
 match P.underlying ty,P.info? ty with
 |some (.struct _),some i=>some (true,i.size)
 |some (.array _ _),some i=>some (true,i.size)
 |some _,some i=>some (false,i.size)
 |_,_=>none
def fZ(P:Program)(ty:TypeId):Option (TypeId×Nat×Nat):=
 match P.underlying ty with
 |some (.slice e)=>match P.info? e with
  |some i=>match i.zero with
   |some z=>if z.cells.size=i.size/\0<i.size then some (e,i.size,i.bytes)else none
   |none=>none
  |none=>none
 |_=>none
def HL(P:Program)(ty:TypeId)(f:Nat):Option (Nat×Nat×Bool):=
 match P.underlying ty with
 |some (.struct D)=>match D[f]? with
  |some d=>match nI P d.type with
   |some (agg,n)=>if 0<n then some (d.offset,n,agg)else none
   |none=>none
  |none=>none
 |_=>none
def vk(P:Program)(ty:TypeId):Option (List Value):=
 match P.info? ty with
 |some i=>match i.zero with
  |some z=>some z.cells.toList
  |none=>none
 |none=>none
def VW(P:Program)(ty:TypeId):Option (List (Nat×Nat)×List Value):=
 match P.underlying ty,vk P ty with
 |some (.struct D),some z=>if D.toList.all (λf=>(P.info? f.type).isSome)=true then some (D.toList.map (λf=>(f.offset,((P.info? f.type).map (·.size)).getD 0)),z)else none
 |_,_=>none
def arr(P:Program)(ty:TypeId):Option (Nat×Nat):=
 match P.underlying ty with
 |some (.array l e)=>match P.info? e with
  |some i=>some (l,i.size)
  |none=>none
 |_=>none
def MB(P:Program)(ty:TypeId):Bool:=match P.underlying ty with|some (.pointer _)=>true|_=>false
def adG(P:Program)(ty:TypeId):Option IntKind:=match P.underlying ty with|some (.int k)=>some k|_=>none
def sj(P:Program)(ty:TypeId):Bool:=match P.underlying ty with|some .string=>true|_=>false
def Tn(P:Program)(ty:TypeId):Bool:=match P.underlying ty with|some .bool=>true|_=>false
def ari(op:BinOp):Bool:=match op with|.shl=>true |.shr=>true|_=>false
def xk(P:Program):Nat->TypeId->Option Ty
 |0,_=>none
 |f+1,ty=>
  match P.underlying ty with
  |some (.int k)=>some (.int k)
  |some .bool=>some .bool
  |some .string=>some .str
  |some (.float k)=>some (.gK k)
  |some (.slice e)=>match xk P f e with|some t=>some (.sl t)|none=>none
  |some (.pointer e)=>match xk P f e with|some t=>some (.opt t)|none=>none
  |some (.array n e)=>match xk P f e with|some t=>some (Nat.rec .unit (λi r=>match i with|0=>t|_=>.pair t r) n)|none=>none
  |some (.struct D)=>D.toList.foldr (λd r=>match xk P f d.type,r with|some t,some none=>some (some t)|some t,some (some u)=>some (some (.pair t u))|_,_=>none) (some none)|>.map (λo=>o.getD .unit)
  |_=>none
def rq:(t:Ty)->DC->Option (den t)
 |t,.v D x=>match nn D t with
  |some h=>some (h.down▸x)
  |none=>match t,D,x with
   |.opt a,.ptr b,x=>match nn b a with|some h=>some (some (h.down▸x))|none=>none
   |_,_,_=>none
 |.bool,.kb b=>some b
 |.sl _,.nil=>some []
 |.sl _,.z=>some []
 |.opt _,.np=>some none
 |_,_=>none
def qP{t:Ty}(o:Option (den t))(r:List DC):Option (den t×List DC):=match o with|some x=>some (x,r)|none=>none
def mo(f:(t:Ty)->DC->Option (den t)):(t:Ty)->List DC->Option (den t×List DC)
 |.pair a b,l=>match mo f a l with
  |some (x,r)=>match mo f b r with
   |some (y,q)=>some ((x,y),q)
   |none=>none
  |none=>none
 |.unit,l=>some ((),l)
 |.int k,c::r=>qP (f (.int k) c) r
 |.bool,c::r=>qP (f .bool c) r
 |.str,c::r=>qP (f .str c) r
 |.gK k,c::r=>qP (f (.gK k) c) r
 |.sl t,c::r=>qP (f (.sl t) c) r
 |.ptr t,c::r=>qP (f (.ptr t) c) r
 |.opt t,c::r=>qP (f (.opt t) c) r
 |.val,c::r=>qP (f .val c) r
 |_,[]=>none
def pI{α:Type}:Option (α×List DC)->Option α
 |some (x,[])=>some x
 |_=>none
def qN(t:Ty)(l:List DC):Option (den t):=pI (mo rq t l)
def cellsD:DS->Option (List DC)
 |.c x=>some [x]
 |.agg l=>some l
 |.fn (.func f) [] []=>some [.mH f]
 |_=>none
def adt(t:Ty)(x:DS):Option (den t):=match cellsD x with|some l=>qN t l|none=>none
def F3(t:Ty):Nat->List (Nat×DS)->Option (List (den t))
 |_,[]=>some []
 |k,(i,x)::r=>if i=k then(match adt t x,F3 t (k+1) r with|some a,some l=>some (a::l)|_,_=>none)else none
def vD:Value->Option DC
 |.bool b=>some (.kb b)
 |.int k n=>some (.v (.int k) n)
 |.float k n=>some (.v (.gK k) n)
 |.string s=>some (.v .str s.data.toList)
 |.slice none 0 0=>some .nil
 |.pointer none=>some .np
 |.nilFunc=>some .nf
 |_=>none
def xQ:List Value->Option (List DC)
 |[]=>some []
 |x::r=>match vD x,xQ r with|some c,some l=>some (c::l)|_,_=>none
def T0:Value->Option DS
 |.agg cs=>match xQ cs.toList with|some l=>some (.agg l)|none=>none
 |x=>match vD x with|some c=>some (.c c)|none=>none
def bq(s:cG):Operand->Option DS
 |.tmp t=>some (bM s t)
 |.const v=>T0 v
 |.global _=>none
 |.func f=>some (.fn (.func f) [] [])
def po(agg:Bool)(n:Nat)(l:List DC)(i:Nat):DS:=if agg then .agg ((l.drop i).take n)else .c (l.getD i .dead)
def rowAt(H:ax)(k g:Nat):Option aR:=
 match aj H k with
 |some (.row hs e t l)=>match au9 g hs.length with|true=>some (.row hs e t l)|false=>none
 |some (.bF hs e t b l q)=>match au9 g hs.length with|true=>some (.bF hs e t b l q)|false=>none
 |_=>none
section
variable {R:Type}
def only(b:Bool)(k:Option R):Option R:=match b with|true=>k|false=>none
def dU(x:Option DS)(k:DS->Option R):Option R:=match x with|some v=>k v|none=>none
def Ud(P:Program)(H:ax)(ty:TypeId)(x:DS)(K:DS->Option R):Option R:=
 match nI P ty,x with
 |some (agg,n),.c (.ptr k i)=>match aj H k with
  |some (.var D cells)=>only (!au9 D iQ&&((agg||n==1)&&decide (i+n<=cells.length))) (K (po agg n cells i))
  |_=>none
 |some (agg,n),.c (.el t y i)=>only ((agg||n==1)&&decide (i+n<=wid t)) (K (po agg n (cA t y) i))
 |some (agg,n),.c (.v (.ptr t) y)=>only ((agg||n==1)&&decide (0+n<=wid t)) (K (po agg n (cA t y) 0))
 |some (agg,n),.c (.ow k g (.el i j))=>match rowAt H k g with
  |some (.row _ _ t l)=>only ((agg||n==1)&&decide (j+n<=wid t)) (l[i]?.bind λy=>K (po agg n (cA t y) j))
  |some (.bF _ _ t e l last)=>only ((agg||n==1)&&decide (j+n<=wid t)) (only (!e) (l[i]?.bind λy=>K (po agg n (cA t y) j)))
  |_=>none
 |some (agg,n),.c (.ow k g (.tb j))=>match rowAt H k g with
  |some (.bF _ _ t e l last)=>only ((agg||n==1)&&decide (j+n<=last.length)) (only (last.length==wid t&& !e) (K (po agg n last j)))
  |_=>none
 |_,_=>none
def Ru(P:Program)(H:ax)(ty:TypeId)(x:DS)(f:Nat)(K:DS->Option R):Option R:=
 match HL P ty f,x with
 |some (off,_,_),.c (.ptr k i)=>K (.c (.ptr k (i+off)))
 |some (off,_,_),.c (.el t y j)=>K (.c (.el t y (j+off)))
 |some (off,_,_),.c (.v (.ptr t) y)=>K (.c (.el t y off))
 |some (off,_,_),.c (.ow k g (.el i j))=>only (rowAt H k g).isSome (K (.c (.ow k g (.el i (j+off)))))
 |some (off,_,_),.c (.ow k g (.tb j))=>only (rowAt H k g).isSome (K (.c (.ow k g (.tb (j+off)))))
 |_,_=>none
def Au:Nat->Int->(Nat->Option R)->Option R
 |0,_,_=>none
 |n+1,i,K=>if i=n then K n else Au n i K
def Rp(P:Program)(H:ax)(ty:TypeId)(x D:DS)(K:DS->Option R):Option R:=
 match fZ P ty,x,D with
 |some (_,n,_),.c (.v (.sl t) l),.c (.v (.int _) i)=>only (wid t==n) ((ag l i).bind λy=>K (.c (.el t y 0)))
 |some (_,n,_),.c (.ow k g .all),.c (.v (.int _) i)=>match rowAt H k g with
  |some (.row _ _ t l)=>only (wid t==n) (J (0<=i/\i<l.length) (K (.c (.ow k g (.el i.toNat 0)))))
  |some (.bF _ _ t e l _)=>only (wid t==n) (only (!e) (J (0<=i/\i<=l.length) (cond (decide (i=l.length)) (K (.c (.ow k g (.tb 0)))) (K (.c (.ow k g (.el i.toNat 0)))))))
  |_=>none
 |some (_,n,_),.c (.ow k g (.nJ i)),.c (.v (.int _) q)=>match rowAt H k g with
  |some (.row _ _ t l)=>only (wid t==n) (J (0<=q/\q<((l.length-i:Nat):Int)) (K (.c (.ow k g (.el (i+q.toNat) 0)))))
  |_=>none
 |none,.c (.el t y j),.c (.v (.int _) i)=>match arr P ty with
  |some (len,n)=>Au len i λq=>K (.c (.el t y (j+q*n)))
  |none=>none
 |none,.c (.ptr k j),.c (.v (.int _) i)=>match arr P ty with
  |some (len,n)=>Au len i λq=>K (.c (.ptr k (j+q*n)))
  |none=>none
 |_,_,_=>none
def xo(n:Int):DS:=.c (.v (.int .i64) n)
def iw(b:Bool):DS:=.c (.v .bool b)
def UA(P:Program)(H:ax)(ty:TypeId)(x:DS)(K:DS->Option R):Option R:=
 match x with
 |.c (.v (.sl _) l)=>only (fZ P ty).isSome (K (xo l.length))
 |.c (.ow k g .all)=>match rowAt H k g with
  |some (.row _ _ _ l)=>only (fZ P ty).isSome (K (xo l.length))
  |some (.bF _ _ _ e l _)=>only (fZ P ty).isSome (K (xo ((cond e 0 (l.length+1):Nat):Int)))
  |_=>none
 |.c (.ow k g (.nJ i))=>match rowAt H k g with
  |some (.row _ _ _ l)=>only (fZ P ty).isSome (K (xo ((l.length-i:Nat):Int)))
  |_=>none
 |.c .nil=>only (fZ P ty).isSome (K (xo 0))
 |.c .z=>only (fZ P ty).isSome (K (xo 0))
 |.c (.v .str s)=>only (sj P ty) (K (xo s.length))
 |_=>none
def HV(k:IntKind)(n:Int)(K:DS->Option R):Option R:=match k with
 |.u64=>K (.c (.v (.int .u64) (av4 .u64 n)))
 |k=>J (ab k n) (K (.c (.v (.int k) n)))
def UB(op:BinOp)(k:IntKind)(a b:Int)(K:DS->Option R):Option R:=
 match op with
 |.add=>HV k (a+b) K
 |.sub=>HV k (a-b) K
 |.mul=>HV k (a*b) K
 |.eql=>K (iw (decide (a=b)))
 |.neq=>K (iw (!decide (a=b)))
 |.lss=>K (iw (decide (a<b)))
 |.leq=>K (iw (decide (a<=b)))
 |.gtr=>K (iw (decide (b<a)))
 |.geq=>K (iw (decide (b<=a)))
 |.quo=>J (b≠0) (K (.c (.v (.int k) (k.wrap (a.tdiv b)))))
 |.rem=>J (b≠0) (K (.c (.v (.int k) (a.tmod b))))
 |.and=>K (.c (.v (.int k) (bits .and k a b)))
 |.or=>K (.c (.v (.int k) (bits .or k a b)))
 |.xor=>K (.c (.v (.int k) (bits .xor k a b)))
 |.andNot=>K (.c (.v (.int k) (bits .andNot k a b)))
 |_=>none
def TG(op:BinOp)(k:IntKind)(a b:Int)(K:DS->Option R):Option R:=
 match op with
 |.shl=>J (0<=b) (K (.c (.v (.int k) (k.wrap (a*2^(min b.toNat k.bits))))))
 |.shr=>J (0<=b) (K (.c (.v (.int k) (a.fdiv (2^(min b.toNat k.bits))))))
 |_=>none
def Ut(op:BinOp)(a b:List UInt8)(K:DS->Option R):Option R:=
 match op with
 |.add=>J (a.length+b.length<=9223372036854775807) (K (.c (.v .str (a++b))))
 |.eql=>K (iw (decide (a=b)))
 |.neq=>K (iw (!decide (a=b)))
 |.lss=>K (iw (Op.bytesLess a b))
 |.gtr=>K (iw (!(Op.bytesLess a b||decide (a=b))))
 |.leq=>K (iw (Op.bytesLess a b||decide (a=b)))
 |.geq=>K (iw (!(Op.bytesLess a b)))
 |_=>none
def rp(op:BinOp)(K:Bool->Option R)(b:Bool):Option R:=
 match op with
 |.eql=>K b
 |.neq=>K (!b)
 |_=>none
def oK(b:Bool):DS:=.c (.kb b)
def fB(op:BinOp)(k:FloatKind)(x y:Nat):Option Bool:=
 match op with
 |.eql=>some (k.format.order x y==some .eq)
 |.neq=>some (k.format.order x y !=some .eq)
 |.lss=>some (k.format.order x y==some .lt)
 |.leq=>some (k.format.order x y==some .lt||k.format.order x y==some .eq)
 |.gtr=>some (k.format.order x y==some .gt)
 |.geq=>some (k.format.order x y==some .gt||k.format.order x y==some .eq)
 |_=>none
def MK:DC->Option Bool
 |.v .bool b=>some b
 |.kb b=>some b
 |_=>none
def Nq(H:ax):DC->Bool
 |.ptr _ _=>true
 |.el _ _ _=>true
 |.v (.ptr _) _=>true
 |.ow k g (.el _ _)=>(rowAt H k g).isSome
 |.ow k g (.tb _)=>(rowAt H k g).isSome
 |_=>false
def Gl:DC->DC->Option Bool
 |.v (.int k) a,.v (.int D) b=>if k=D then some (decide (a=b))else none
 |.v .bool a,.v .bool b=>some (a==b)
 |.v .bool a,.kb b=>some (a==b)
 |.kb a,.v .bool b=>some (a==b)
 |.kb a,.kb b=>some (a==b)
 |.v .str a,.v .str b=>some (decide (a=b))
 |_,_=>none
def Bb:List DC->List DC->Option Bool
 |[],[]=>some true
 |[c],[d]=>Gl c d
 |c::r,d::q=>match Gl c d,Bb r q with|some a,some b=>some (a&&b)|_,_=>none
 |_,_=>none
def jZ(P:Program):Nat->TypeId->Option (List Nat)
 |0,_=>none
 |f+1,ty=>match P.underlying ty with
  |some (.int _)=>some [0]
  |some .bool=>some [1]
  |some .string=>some [2]
  |some (.struct D)=>match P.stoodInHeld ty with|true=>none|false=>AQ P f 0 D.toList
  |some (.array len e)=>match jZ P f e,P.info? e with
   |some l,some i=>match au9 i.size l.length with|true=>some (av5 len l).flatten|false=>none
   |_,_=>none
  |_=>none
where AQ (P:Program):Nat->Nat->List Field->Option (List Nat)
 |0,_,_=>none
 |_+1,_,[]=>some []
 |f+1,off,d::r=>match jZ P f d.type,P.info? d.type with
  |some l,some i=>match au9 d.offset off,au9 i.size l.length,decide (d.name≠ "_") with
   |true,true,true=>match AQ P f (off+l.length) r with|some q=>some (l++q)|none=>none
   |_,_,_=>none
  |_,_=>none
def adJ:Nat->DC->Bool
 |0,.v (.int _) _=>true
 |1,.v .bool _=>true
 |1,.kb _=>true
 |2,.v .str _=>true
 |_,_=>false
def F9:List Nat->List DC->Bool
 |[],[]=>true
 |k::r,v::q=>adJ k v&&F9 r q
 |_,_=>false
def M1(P:Program)(ty:TypeId):Bool:=match P.underlying ty with|some (.func _ _ _)=>true|_=>false
def UH(P:Program)(H:ax)(op:BinOp)(ty:TypeId)(x y:DS)(K:DS->Option R):Option R:=
 match x,y with
 |.c (.v (.int k) a),.c (.v (.int D) b)=>match ari op with
  |true=>TG op k a b K
  |false=>if k=D then UB op k a b K else none
 |.c (.v .str a),.c (.v .str b)=>Ut op a b K
 |.c (.v (.gK k) a),.c (.v (.gK D) b)=>if k=D then(match fB op k a b with|some b=>K (iw b)|none=>none)else none
 |.agg l,.agg q=>match Bb l q,jZ P 20 ty,P.eqGuardType P.depth ty,nI P ty with
  |some b,some ls,false,some (true,_)=>match F9 ls l&&F9 ls q with
   |true=>rp op (λb=>K (iw b)) b
   |false=>none
  |_,_,_,_=>none
 |.fn (.func _) _ _,.c .nf=>only (M1 P ty) (rp op (λb=>K (oK b)) false)
 |.c (.mH _),.c .nf=>only (M1 P ty) (rp op (λb=>K (oK b)) false)
 |.c .nil,.c .nil=>only (fZ P ty).isSome (rp op (λb=>K (oK b)) true)
 |.c .np,.c .np=>only (MB P ty) (rp op (λb=>K (oK b)) true)
 |.c c,.c .np=>only (MB P ty&&Nq H c) (rp op (λb=>K (oK b)) false)
 |.c c,.c d=>match MK c,MK d with
  |some a,some b=>only (Tn P ty) (rp op (λb=>K (iw b)) (a==b))
  |_,_=>none
 |_,_=>none
def unD(op:UnOp)(x:DS)(K:DS->Option R):Option R:=
 match op,x with
 |.not,.c (.v .bool b)=>K (iw (!b))
 |.not,.c (.kb b)=>K (.c (.kb (!b)))
 |.neg,.c (.v (.int k) n)=>J (ab k (0-n)) (K (.c (.v (.int k) (0-n))))
 |.xor,.c (.v (.int k) n)=>K (.c (.v (.int k) (bits .xor k (if k.signed then-1 else k.max) n)))
 |_,_=>none
def adi(P:Program)(src dst:TypeId)(x:DS)(K:DS->Option R):Option R:=
 match x with
 |.c (.v (.int k) n)=>match adG P dst with
  |some D=>only (P.underlying src).isSome (K (.c (.v (.int D) (D.wrap n))))
  |none=>none
 |.c (.v .str s)=>only (sj P src&&sj P dst) (K (.c (.v .str s)))
 |_=>none
def VV:Sum DC (List DC)->DS
 |.inl x=>.c x
 |.inr l=>.agg l
def M4(places:List (Nat×Nat))(cells:List DC):List (Nat×DS)->Option (List DC)
 |[]=>some cells
 |(i,v)::rest=>
  match places[i]?,cellsD v with
  |some (off,size),some l=>if l.length=size/\off+size<=cells.length then M4 places (cells.take off++l++cells.drop (off+l.length)) rest else none
  |_,_=>none
def FN(s:cG):List (Nat×Operand)->Option (List (Nat×DS))
 |[]=>some []
 |(i,x)::r=>match bq s x,FN s r with|some v,some l=>some ((i,v)::l)|_,_=>none
def A4(x:Option DS)(d:Int):Option Int:=
 match x with
 |none=>some d
 |some (.c (.v (.int _) n))=>some n
 |_=>none
def OH:DS->Bool
 |.c .z=>true
 |.c .nil=>true
 |_=>false
def ya(s:cG):Option Operand->Option (Option DS)
 |none=>some none
 |some x=>match bq s x with|some v=>some (some v)|none=>none
def adD:DC->Option LC
 |.v t x=>match lS t with|true=>some (.v t x)|false=>none
 |.kb b=>some (.v .bool b)
 |.nil=>some .nil
 |_=>none
def uw:List DC->Option (List LC)
 |[]=>some []
 |c::r=>match adD c,uw r with|some a,some q=>some (a::q)|_,_=>none
def adr:LC->DC
 |.v t x=>.v t x
 |.nil=>.nil
def Nx(t:Ty):DC->Option (den t)
 |.v D x=>match nn D t with|some h=>some (h.down▸x)|none=>none
 |_=>none
def MW(t:Ty)(y:DS):Option (List (den t)):=
 match y with
 |.c .nil=>some []
 |.c (.v D x)=>rq (.sl t) (.v D x)
 |_=>none
def atk:Value->Bool
 |.slice _ _ _=>false
 |_=>true
def MM(P:Program)(e:TypeId)(t:Ty):Option (den t):=
 match vk P e with
 |some z=>match xQ z,z.all atk with
  |some D,true=>qN t D
  |_,_=>none
 |none=>none
def mq(H:ax)(d:Nat):Bool:=match aj H d with|none=> !dw d|some _=>false
theorem o8{H:ax}{k:Nat}(h:mq H k=true):aj H k=none:=by grind[mq]
theorem rY{H:ax}{k:Nat}(h:mq H k=true):dw k=false:=by grind[mq]
def Mc(H:ax)(d:Nat)(e:TypeId)(t:Ty)(l:List (den t))(K:DS->ax->Option R):Option R:=only (mq H d) (K (.c (.ow d 0 .all)) (oset H d (.row [] e t l)))
def wQ(P:Program)(H:ax)(L:Bool)(dst:Option Tmp)(ty:TypeId)(x y:DS)(K:DS->ax->Option R):Option R:=
 match fZ P ty,x with
 |some (e,n,b),.c (.ow k g .all)=>only (!L&&decide (b<=1000)&& !dw k) (match rowAt H k g,y with
  |some (.row hs D t rows),y=>match MW t y with
   |some more=>only (decide (e=D)&&wid t==n) (J (rows.length+more.length<=1000000000) (K (.c (.ow k (hs.length+1) .all)) (oset H k (.row (hs++[some rows.length]) D t (rows++more)))))
   |none=>none
  |some (.bF hs D t F rows last),.c (.A6 q)=>match pI (mo Nx t last)with
   |some x'=>only (decide (e=D)&&wid t==n&&decide (q.length=wid t)) (J (rows.length+2<=1000000000) (K (.c (.ow k (hs.length+1) .all)) (oset H k (.bF (hs++[some (cond F 0 (rows.length+1))]) D t false (cond F [] (rows++[x'])) (q.map adr)))))
   |none=>none
  |_,_=>none)
 |some (e,n,b),x=>only (OH x&&decide (b<=1000)) (match L,y,dst,xk P 20 e with
  |true,.c (.v (.sl t) more),_,_=>only (wid t==n) (J (more.length<=1000000000) (K (.c (.v (.sl t) more)) H))
  |false,y,some d,some t=>match MW t y with
   |some more=>only (wid t==n) (J (more.length<=1000000000) (Mc H d e t more K))
   |none=>none
  |_,_,_,_=>none)
 |_,_=>none
def wS(P:Program)(H:ax)(ty:TypeId)(x:DS)(F D:Option DS)(K:DS->ax->Option R):Option R:=
 match x,fZ P ty with
 |.c (.v (.sl t) rows),some (_,n,_)=>match A4 F 0,A4 D rows.length with
  |some l,some h=>only (wid t==n) (J (0<=l/\l<=h/\h<=rows.length) (K (.c (.v (.sl t) ((rows.take h.toNat).drop l.toNat))) H))
  |_,_=>none
 |.c (.v .str s),_=>match A4 F 0,A4 D s.length with
  |some l,some h=>only (sj P ty) (J (0<=l/\l<=h/\h<=s.length) (K (.c (.v .str ((s.take h.toNat).drop l.toNat))) H))
  |_,_=>none
 |.c (.ow k g .all),some (_,n,_)=>match rowAt H k g,F,D with
  |some (.row hs e t l),some (.c (.v (.int _) i)),none=>only (wid t==n) (J (0<=i/\i<=(l.length:Int)/\0<l.length) (K (.c (.ow k g (.nJ i.toNat))) H))
  |some (.row hs e t l),none,some (.c (.v (.int _) i))=>only (wid t==n&&(Nat.blt k 1000||Nat.ble 5000 k)) (J (0<=i/\i<=(l.length:Int)/\0<l.length) (K (.c (.ow k (hs.length+1) .all)) (oset H k (.row (av5 (hs.length+1) none) e t (l.take i.toNat)))))
  |_,_,_=>none
 |_,_=>none
def Ms(P:Program)(H:ax)(ty:TypeId)(x y:DS)(K:DS->ax->Option R):Option R:=
 match nI P ty,x,cellsD y with
 |some (_,n),.c (.ptr k i),some l=>match aj H k with
  |some (.var D cells)=>only (!dw k&& !au9 D iQ&&(decide (l.length=n)&&decide (i+n<=cells.length))) (K (.eR []) (oset H k (.var D (cells.take i++l++cells.drop (i+l.length)))))
  |_=>none
 |some (_,n),.c (.ow k g p),some l=>match rowAt H k g,p with
  |some (.row hs e t rows),.el i j=>only (!dw k&&(decide (l.length=n)&&decide (j+n<=wid t))) (rows[i]?.bind λq=>match qN t ((cA t q).take j++l++(cA t q).drop (j+l.length))with
   |some F=>K (.eR []) (oset H k (.row hs e t (rows.set i F)))
   |none=>none)
  |some (.bF hs e t b rows last),.tb j=>only (decide (l.length=n)&&decide (j+n<=wid t)&&decide (last.length=wid t)) (only (!dw k&& !b) (K (.eR []) (oset H k (.bF hs e t b rows (last.take j++l++last.drop (j+l.length))))))
  |_,_=>none
 |_,_,_=>none
def Mw(P:Program)(H:ax)(d:Nat)(ty:TypeId)(x:DS)(K:DS->ax->Option R):Option R:=
 match x with
 |.c (.v .str t)=>only (mq H d&&sj P ty) (K (.c (.ptr d 0)) (oset H d (.var iQ [.v .str t,.v (.int .i64) 0])))
 |_=>none
def MU(H:ax)(x:DS)(K:DS->ax->Option R):Option R:=
 match x with
 |.c (.ptr k 0)=>match aj H k with
  |some (.var D [.v .str t,.v (.int .i64) n])=>only (au9 D iQ&& !dw k) (bif decide (n<(t.length:Int))then(ag t n).bind λb=>J (b.toNat<128) (K (.eR [.inl (.kb true),.inl (.v (.int .i64) n),.inl (.v (.int .i32) (b.toNat:Int))]) (oset H k (.var iQ [.v .str t,.v (.int .i64) (n+1)])))else K (.eR [.inl (.kb false)]) H)
  |_=>none
 |_=>none
def MI(P:Program)(H:ax)(ty:TypeId)(x:DS)(K:DS->ax->Option R):Option R:=
 match fZ P ty,x with
 |some (e,n,_),.c (.ow k g (.nJ i))=>match rowAt H k g with
  |some (.row hs D t l)=>match MM P e t with
   |some q=>only (!dw k&&wid t==n) (K (.eR []) (oset H k (.row hs D t (l.take i++av5 (l.length-i) q))))
   |none=>none
  |_=>none
 |_,_=>none
def sI:DC->Option Value
 |.kb b=>some (.bool b)
 |.np=>some (.pointer none)
 |.nf=>some .nilFunc
 |.nil=>some (.slice none 0 0)
 |.v (.int k) n=>some (.int k n)
 |.v .bool b=>some (.bool b)
 |.v .str l=>some (.string ⟨l.toArray⟩)
 |.v (.gK k) n=>some (.float k n)
 |.v .val x=>some (.iface x.1 x.2)
 |_=>none
def fG:List DC->Option (List Value)
 |[]=>some []
 |x::t=>match sI x,fG t with|some v,some l=>some (v::l)|_,_=>none
def vo:DS->Option Value
 |.c x=>sI x
 |.agg l=>match fG l with|some l=>some (.agg l.toArray)|none=>none
 |_=>none
def aar(P:Program)(ty:TypeId):Bool:=match P.underlying ty with|some (.interface _)=>false|some _=>true|none=>false
def TQ(P:Program)(ty:TypeId)(x D:DS)(K:DS->Option R):Option R:=
 match x,D with
 |.c (.v .str s),.c (.v (.int _) i)=>only (sj P ty) ((ag s i).bind λb=>K (.c (.v (.int .u8) b.toNat)))
 |.agg l,.c (.v (.int _) i)=>match P.underlying ty with
  |some (.array len e)=>match nI P e with
   |some (false,1)=>only (au9 l.length len) (Au len i λq=>K (.c (l.getD q .dead)))
   |_=>none
  |_=>none
 |_,_=>none
def Gc(s:cG):List Operand->Option (List DC)
 |[]=>some []
 |x::r=>match bq s x,Gc s r with|some (.c c),some l=>some (c::l)|_,_=>none
def xV(P:Program)(s:aF)(ow li:Bool)(dst:Option Tmp)(op:Op)(K:DS->ax->Option R):Option R:=
 match op with
 |.move x=>dU (bq s.sl x) λv=>K v s.hp
 |.assign x=>dU (bq s.sl x) λv=>K v s.hp
 |.load ty x=>dU (bq s.sl x) λv=>Ud P s.hp ty v λv=>K v s.hp
 |.fieldAddr ty x f=>dU (bq s.sl x) λv=>Ru P s.hp ty v f λv=>K v s.hp
 |.indexAddr ty x i=>dU (bq s.sl x) λv=>dU (bq s.sl i) λj=>Rp P s.hp ty v j λv=>K v s.hp
 |.binOp op ty x y _=>dU (bq s.sl x) λv=>dU (bq s.sl y) λu=>UH P s.hp op ty v u λv=>K v s.hp
 |.unOp op _ x=>dU (bq s.sl x) λv=>unD op v λv=>K v s.hp
 |.convert src dst x=>dU (bq s.sl x) λv=>adi P src dst v λv=>K v s.hp
 |.nilCheck x=>dU (bq s.sl x) λv=>match v with|.c c=>only (Nq s.hp c) (K v s.hp)|_=>none
 |.field ty x f=>dU (bq s.sl x) λv=>match HL P ty f,v with
  |some (off,n,agg),.agg l=>only ((agg||n==1)&&decide (off+n<=l.length)) (K (po agg n l off) s.hp)
  |_,_=>none
 |.extract x i=>dU (bq s.sl x) λv=>match v with
  |.eR l=>match l[i]? with|some u=>K (VV u) s.hp|none=>none
  |_=>none
 |.build ty ps=>match FN s.sl ps.toList,VW P ty with
  |some l,some (pl,z)=>match xQ z with
   |some U=>match M4 pl U l with
    |some r=>K (.agg r) s.hp
    |none=>none
   |none=>none
  |_,_=>none
 |.slice ty x N L none=>dU (bq s.sl x) λv=>match ya s.sl N,ya s.sl L with
  |some l,some h=>wS P s.hp ty v l h K
  |_,_=>none
 |.slice ty x none (some y) (some z)=>dU (bq s.sl x) λv=>dU (bq s.sl y) λu=>dU (bq s.sl z) λq=>match v,u,q with
  |.c c,.c (.v (.int _) a),.c (.v (.int _) b)=>only ((fZ P ty).isSome&&(match c with|.v (.sl _) _=>true |.nil=>true |.z=>true|_=>false)) (J (a=0/\b=0) (K (.c .z) s.hp))
  |_,_,_=>none
 |.index ty x i=>dU (bq s.sl x) λv=>dU (bq s.sl i) λj=>TQ P ty v j λv=>K v s.hp
 |.pick x y z=>dU (bq s.sl x) λv=>dU (bq s.sl y) λu=>dU (bq s.sl z) λq=>match v with
  |.c (.kb b)=>match b with|true=>K u s.hp|false=>K q s.hp
  |.c (.v .bool b)=>cond b (K u s.hp) (K q s.hp)
  |_=>none
 |.makeInterface ty x=>dU (bq s.sl x) λd=>match vo d,aar P ty with
  |some v,true=>K (.c (.v .val (ty,v))) s.hp
  |_,_=>none
 |.makeFunc (.func f) F cs=>match Gc s.sl F.toList,Gc s.sl cs.toList with
  |some a,some b=>K (.fn (.func f) a b) s.hp
  |_,_=>none
 |.alloc ty=>match dst,vk P ty with
  |some d,some z=>match xQ z with
   |some l=>only (!au9 ty iQ&&mq s.hp d) (K (.c (.ptr d 0)) (oset s.hp d (.var ty l)))
   |none=>none
  |_,_=>none
 |.box ty x=>match dst,bq s.sl x with
  |some d,some v=>match cellsD v with
   |some l=>only (!au9 ty iQ&&mq s.hp d) (K (.c (.ptr d 0)) (oset s.hp d (.var ty l)))
   |none=>none
  |_,_=>none
 |.store ty x y=>dU (bq s.sl x) λv=>dU (bq s.sl y) λu=>Ms P s.hp ty v u K
 |.makeSlice ty x y=>dU (bq s.sl x) λv=>dU (bq s.sl y) λu=>match dst,fZ P ty,v,u with
  |some d,some (e,n,b),.c (.v (.int _) a),.c (.v (.int _) D)=>match xk P 20 e with
   |some t=>match MM P e t with
    |some q=>only (wid t==n&&decide (b<=1000)) (J (a=D/\0<=a/\a<=1000000000) (Mc s.hp d e t (av5 a.toNat q) K))
    |none=>none
   |none=>none
  |_,_,_,_=>none
 |.buildSlice ty len ps=>match FN s.sl ps.toList,fZ P ty with
  |some ps,some (e,n,_)=>match li,ps with
   |true,[(0,v)]=>match cellsD v with
    |some cs=>match uw cs with
     |some q=>only (au9 len 1&&au9 q.length n&&Nat.ble n 16777216) (K (.c (.A6 q)) s.hp)
     |none=>none
    |none=>none
   |_,ps=>match ow,len,ps,dst with
    |false,0,[],_=>K (.c .z) s.hp
    |ow,len,ps,dst=>match xk P 20 e with
     |some t=>match F3 t 0 ps with
      |some rows=>only (decide (rows.length=len)&&wid t==n&&decide (len*n<=16777216)) (match ow,dst with
       |false,_=>K (.c (.v (.sl t) rows)) s.hp
       |true,some d=>Mc s.hp d e t rows K
       |_,_=>none)
      |none=>none
     |none=>none
  |_,_=>none
 |.call {callee:=.builtin .len,args:=⟨[x]⟩,argTypes:=⟨[ty]⟩}=>dU (bq s.sl x) λv=>UA P s.hp ty v λv=>K v s.hp
 |.call {callee:=.builtin .append,args:=⟨[x,y]⟩,argTypes:=⟨[ty,O]⟩}=>only (decide (ty=O)) (dU (bq s.sl x) λv=>dU (bq s.sl y) λu=>wQ P s.hp ow dst ty v u K)
 |.call {callee:=.builtin .clear,args:=⟨[x]⟩,argTypes:=⟨[ty]⟩}=>dU (bq s.sl x) λv=>MI P s.hp ty v K
 |.call {callee:=.builtin .max,args:=⟨[x,y]⟩,argTypes:=_}=>match bq s.sl x,bq s.sl y with
  |some (.c (.v (.int k) a)),some (.c (.v (.int M) b))=>K (.c (.v (.int k) (if b>a then b else a))) s.hp
  |_,_=>none
 |.call {callee:=.builtin .min,args:=⟨[x,y]⟩,argTypes:=_}=>match bq s.sl x,bq s.sl y with
  |some (.c (.v (.int k) a)),some (.c (.v (.int M) b))=>K (.c (.v (.int k) (if b<a then b else a))) s.hp
  |_,_=>none
 |.range ty x=>dU (bq s.sl x) λv=>match dst with|some d=>Mw P s.hp d ty v K|none=>none
 |.next x true=>dU (bq s.sl x) λv=>MU s.hp v K
 |_=>none
end
theorem at6(s:ByteArray):∀(k i:Nat) (r:List UInt8),s.size-i=k->ByteArray.toList.loop s i r=r.reverse++s.data.toList.drop i:=by
 intro k
 induction k with
 |zero=>
  intro i r h;unfold ByteArray.toList.loop;have:s.data.toList.length<=i:=by have:s.data.toList.length=s.size:=rfl;omega
  rw[if_neg (by omega),az3 this,aw5]
 |succ k J=>
  intro i r h;unfold ByteArray.toList.loop;have F:s.data.toList.length=s.size:=rfl;congr 1;have D:i<s.data.toList.length:=by omega
  rw[av6 D];have:s.get! i=s.data.toList[i]:=by show s.data[i]! =_;grind
  grind
theorem at7(l:List UInt8):(⟨l.toArray⟩:ByteArray).toList=l:=by simp
theorem acd(a b:List UInt8):(a==b)=decide (a=b):=by grind
def Ba:Nat->Value->Bool
 |0,.int _ _=>true
 |1,.bool _=>true
 |2,.string _=>true
 |_,_=>false
def iD:List Nat->List Value->Bool
 |[],[]=>true
 |k::r,v::q=>Ba k v&&iD r q
 |_,_=>false
def sJ:Value->Value->Bool
 |.int k a,.int D b=>decide (k=D)&&(a==b)
 |.bool a,.bool b=>a==b
 |.string a,.string b=>a.toList==b.toList
 |_,_=>false
def F2:Value->Value->Bool
 |.int k _,.int D _=>decide (k=D)
 |.bool _,.bool _=>true
 |.string _,.string _=>true
 |_,_=>false
def lD:List Value->List Value->Bool
 |[],[]=>true
 |v::r,u::q=>F2 v u&&lD r q
 |_,_=>false
def gW:List Value->List Value->Bool
 |v::r,u::q=>sJ v u&&gW r q
 |_,_=>true
theorem LP:∀{l:List Nat} {vs:List Value},iD l vs=true->vs.length=l.length:=by
 intro l
 induction l with
 |nil=>intro vs h;cases vs with|nil=>rfl|cons=>cases h
 |cons k r D=>
  intro vs h;cases vs with
  |nil=>cases h
  |cons v q=>simp_all[iD]
theorem Sz:∀{l r:List Nat} {vs:List Value},iD (l++r) vs=true->iD l (vs.take l.length)=true/\iD r (vs.drop l.length)=true:=by
 intro l
 induction l with
 |nil=>intro r vs h;exact⟨rfl,h⟩
 |cons k t D=>
  intro r vs h;cases vs with
  |nil=>cases h
  |cons v q=>rw[List.cons_append]at h;unfold iD at h;rw[au0]at h;obtain⟨h1,h2⟩:=D h.2;refine⟨?_,h2⟩;show(Ba k v&&iD t (q.take t.length))=true;grind
theorem KK:∀(n:Nat) {vs us:List Value},lD vs us=true->lD (vs.take n) (us.take n)=true/\lD (vs.drop n) (us.drop n)=true:=by
 intro n
 induction n with
 |zero=>intro vs us h;exact⟨rfl,h⟩
 |succ n D=>
  intro vs us h;cases vs with
  |nil=>cases us with
   |nil=>grind
   |cons=>cases h
  |cons v r=>cases us with
   |nil=>cases h
   |cons u q=>unfold lD at h;rw[au0]at h;obtain⟨h1,h2⟩:=D h.2;exact⟨by show(F2 v u&&lD _ _)=true;rw[h.1,h1];rfl,h2⟩
theorem aaY:∀(n:Nat) {vs us:List Value},lD vs us=true->gW vs us=(gW (vs.take n) (us.take n)&&gW (vs.drop n) (us.drop n)):=by
 intro n
 induction n with
 |zero=>intro vs us h;rfl
 |succ n D=>
  intro vs us h;cases vs with
  |nil=>rfl
  |cons v r=>cases us with
   |nil=>cases h
   |cons u q=>unfold lD at h;rw[au0]at h;show(sJ v u&&gW r q)=(sJ v u&&gW (r.take n) (q.take n)&&gW (r.drop n) (q.drop n));grind
def j5(P:Program)(ty:TypeId)(vs:List Value):Value:=
 match P.underlying ty with
 |some (.struct _)=>.agg vs.toArray
 |some (.array _ _)=>.agg vs.toArray
 |_=>vs.headD undef
theorem aaj{P:Program}{ty:TypeId}{i:TypeInfo}(L:P.info? ty=some i){d:TypeDesc}(hu:P.underlying ty=some d)(xs:List Value)(off:Nat)(h1:(∀D,d≠.struct D)->(∀n e,d≠.array n e)->i.size=1)(N:off+i.size<=xs.length)(w:World):
  (part ty xs.toArray off).run P w=.ok (j5 P ty ((xs.drop off).take i.size)) w:=by
 unfold part j5;rw[hu];have hs:(sizeOf ty).run P w=.ok i.size w:=by simp [Go.sizeOf,typeInfo,L]
 have M:(∀D,d≠.struct D)->(∀n e,d≠.array n e)->xs.toArray[off]? =some (((xs.drop off).take i.size).headD undef):=λa b=>by
  have J:=h1 a b;have F:off<xs.length:=by omega
  rw[J,List.getElem?_toArray,au4 F,av6 F];rfl
 cases d with
 |struct D=>simp [Go.isAgg,run_underlying hu,hs]
 |array n e=>simp [Go.isAgg,run_underlying hu,hs]
 |_=>have:=M (λ_ e=>by cases e) (λ_ _ e=>by cases e);simp [Go.isAgg,run_underlying hu,this]
theorem ade{v:Value}(h:Ba 0 v=true):∃k n,v=.int k n:=by cases v<;>first|exact⟨_,_,rfl⟩|cases h
theorem adb{v:Value}(h:Ba 1 v=true):∃b,v=.bool b:=by cases v<;>first|exact⟨_,rfl⟩|cases h
theorem ada{v:Value}(h:Ba 2 v=true):∃s,v=.string s:=by cases v<;>first|exact⟨_,rfl⟩|cases h
theorem Ao{k:Nat}{vs:List Value}(h:iD [k] vs=true):∃v,vs=[v]/\Ba k v=true:=by
 match vs with
 |[]=>cases h
 |[v]=>simp_all[iD]
 |v::u::r=>simp_all[iD]
theorem aaE{P:Program}{f:Nat}{ty:TypeId}{l:List Nat}{d:TypeDesc}(h:jZ P f ty=some l)(hu:P.underlying ty=some d)(h1:∀D,d≠.struct D)(h2:∀n e,d≠.array n e):l.length=1:=by
 cases f with
 |zero=>grind[jZ]
 |succ f=>grind[jZ]
theorem eq_arr{P:Program}{d:Nat}{e:TypeId}{n:Nat}(xs ys:List Value)(w:World)
  (hp:∀F:List Value,∀i,i*n+n<=F.length->(part e F.toArray (i*n)).run P w=.ok (j5 P e ((F.drop (i*n)).take n)) w)
  (M:∀i,i*n+n<=xs.length->(Op.equalIn d e (j5 P e ((xs.drop (i*n)).take n)) (j5 P e ((ys.drop (i*n)).take n))).run P w=.ok (gW ((xs.drop (i*n)).take n) ((ys.drop (i*n)).take n)) w)
  (hk:lD xs ys=true) (U:xs.length=ys.length):∀(m s:Nat),(s+m)*n=xs.length->
  ((forIn (List.range' s m) ((none,()):Option Bool×Unit) λi O=>do
   let a<-part e xs.toArray (i*n)
   let b<-part e ys.toArray (i*n)
   let q<-Op.equalIn d e a b
   if(!q)=true then pure (.done (some false,()))else pure (.yield (none,())):Sem (Option Bool×Unit)).run P w)=.ok (if gW (xs.drop (s*n)) (ys.drop (s*n))then(none,())else(some false,())) w:=by
 intro m
 induction m with
 |zero=>
  intro s h;have J:xs.drop (s*n)=[]:=az3 (by grind)
  simp [J,gW]
 |succ m N=>
  intro s h;have hle:s*n+n<=xs.length:=by rw[<-aD0];grind
  rw[List.range'_succ,List.forIn_cons];have D:=aaY n (KK (s*n) hk).2;rw[aF1,aF1,<-aD0]at D;simp only[ax3,hp xs s hle,hp ys s (by omega),ax9,M s hle]
  cases L:gW ((xs.drop (s*n)).take n) ((ys.drop (s*n)).take n)with
  |false=>simp_all
  |true=>rw[L]at D;rw[D];simp only[av2];exact N (s+1) (by grind)
theorem abV{l:List Nat}:∀{m:Nat} {vs:List Value},iD (av5 m l).flatten vs=true->∀i,i<m->iD l ((vs.drop (i*l.length)).take l.length)=true:=by
 intro m
 induction m with
 |zero=>omega
 |succ m F=>
  intro vs h i D;rw[aH8]at h;obtain⟨h1,h2⟩:=Sz h;cases i with
  |zero=>grind
  |succ i=>grind[aF1]
theorem are(P:Program):∀f:Nat,(∀ty l,jZ P f ty=some l->∀d,f<=d->∀xs ys:List Value,iD l xs=true->iD l ys=true->lD xs ys=true->∀w,(Op.equalIn d ty (j5 P ty xs) (j5 P ty ys)).run P w=.ok (gW xs ys) w)/\
  (∀off O l,jZ.AQ P f off O=some l->∀d,f<=d->∀pre xs ys ar:List Value,pre.length=off->ar.length=off->iD l xs=true->iD l ys=true->lD xs ys=true->∀w,(Op.eqFields d (pre++xs).toArray (ar++ys).toArray O).run P w=.ok (gW xs ys) w):=by
 intro f
 induction f with
 |zero=>exact⟨λty l h=>(by unfold jZ at h;cases h),λoff O l h=>(by unfold jZ.AQ at h;cases h)⟩
 |succ f ih=>
  constructor
  ·intro ty l h d hd xs ys L M hk w;obtain⟨d,rfl⟩:∃e,d=e+1:=⟨d-1,by omega⟩
   unfold jZ at h;split at h
   ·rename_i k hu;cases h;obtain⟨v,rfl,hv⟩:=Ao L;obtain⟨u,rfl,an⟩:=Ao M;obtain⟨k1,n1,rfl⟩:=ade hv;obtain⟨k2,n2,rfl⟩:=ade an;have aE:k1=k2:=by simpa[lD,F2]using hk
    subst aE;simp [j5,hu,Op.equalIn,run_underlying hu,gW,sJ]
   ·rename_i hu;cases h;obtain⟨v,rfl,hv⟩:=Ao L;obtain⟨u,rfl,an⟩:=Ao M;obtain⟨b1,rfl⟩:=adb hv;obtain⟨b2,rfl⟩:=adb an;simp [j5,hu,Op.equalIn,run_underlying hu,gW,sJ]
   ·rename_i hu;cases h;obtain⟨v,rfl,hv⟩:=Ao L;obtain⟨u,rfl,an⟩:=Ao M;obtain⟨b1,rfl⟩:=ada hv;obtain⟨b2,rfl⟩:=ada an;simp [j5,hu,Op.equalIn,run_underlying hu,gW,sJ,beq_toListBytes]
   ·rename_i O hu;split at h
    ·cases h
    ·rename_i bx;have hF:P.fieldsOf ty=O:=by unfold Program.fieldsOf;rw[hu]
     have N:∀J:List Value,j5 P ty J=.agg J.toArray:=λJ=>by unfold j5;rw[hu]
     rw[N,N,run_equalIn_struct w d ty _ _ (hF▸hu) bx,hF];have:=ih.2 0 O.toList l h d (by omega) [] xs ys [] rfl rfl L M hk w
     grind
   ·rename_i len e hu;split at h
    ·rename_i D i F hi;split at h
     ·rename_i Y;cases h;have Y:=aw6 Y;have N:∀J:List Value,j5 P ty J=.agg J.toArray:=λJ=>by unfold j5;rw[hu]
      have bp:(sizeOf e).run P w=.ok i.size w:=by simp [Go.sizeOf,typeInfo,hi]
      have ah:=LP L;have a6:=LP M;have a1:(av5 len D).flatten.length=len*D.length:=by simp
      have bb:=eq_arr (P:=P) (d:=d) (e:=e) (n:=D.length) xs ys w (λJ Z hle=>by
        cases U:P.underlying e with
        |none=>exfalso;cases f with
         |zero=>unfold jZ at F;cases F
         |succ f=>unfold jZ at F;rw[U]at F;cases F
        |some dd=>
         have:=aaj (P:=P) hi U J (Z*D.length) (λa b=>by rw[Y];exact aaE F U a b) (Y▸hle) w
         rw[Y]at this;exact this)
       (fun Z hle=>ih.1 e D F d (by omega) _ _ (by
        rw[ah,a1]at hle;by_cases h0:D.length=0
        ·have:D=[]:=az2.1 h0;subst this;simp [iD]
        ·refine abV L Z ?_;have:(Z+1)*D.length<=len*D.length:=by rw[aD0];exact hle
         exact Nat.le_of_mul_le_mul_right this (by omega)) (by
        rw[ah,a1]at hle;by_cases h0:D.length=0
        ·have:D=[]:=az2.1 h0;subst this;simp [iD]
        ·refine abV M Z ?_;have:(Z+1)*D.length<=len*D.length:=by rw[aD0];exact hle
         exact Nat.le_of_mul_le_mul_right this (by omega)) (KK _ (KK _ hk).2).1 w) hk (by omega) len 0 (by rw[ah,a1,ax2])
      rw[N,N];simp only[Op.equalIn,ax3,run_underlying hu,ax9,bp,Y];rw[Std.Legacy.Range.forIn_eq_forIn_range'];simp only[Std.Legacy.Range.size,Nat.sub_zero,Nat.add_sub_cancel,Nat.div_one];rw[bb,Nat.zero_mul,ax7,ax7];cases gW xs ys<;>simp
     ·cases h
    ·cases h
   ·cases h
  ·intro off O l h d hd pre xs ys ar hp a7 L M hk w;cases O with
   |nil=>
    unfold jZ.AQ at h;cases h;cases xs with
    |nil=>simp [Op.eqFields,gW]
    |cons=>cases L
   |cons g r=>
    unfold jZ.AQ at h;split at h
    ·rename_i D i F hi;split at h
     ·rename_i h1 h2 h3;split at h
      ·rename_i q hq;cases h;have h1:=aw6 h1;have h2:=aw6 h2;have h3:g.name≠ "_" :=of_decide_eq_true h3;obtain⟨b0,b3⟩:=Sz L;obtain⟨b4,b5⟩:=Sz M;have ah:=LP L;have a6:=LP M;rw[au5] at ah a6
       have a8:∀(pr J:List Value),pr.length=off->D.length<=J.length->(part g.type (pr++J).toArray g.offset).run P w=.ok (j5 P g.type (J.take D.length)) w:=λpr J N e2=>by
        cases U:P.underlying g.type with
        |none=>exfalso;cases f with
         |zero=>unfold jZ at F;cases F
         |succ f=>unfold jZ at F;rw[U]at F;cases F
        |some dd=>
         have:=aaj (P:=P) hi U (pr++J) g.offset (λa b=>by rw[h2];exact aaE F U a b) (by rw[h2,h1,au5];omega) w
         rw[h1,h2,<-N,aC2]at this;rw[h1,<-N];exact this
       have az:=aaY D.length hk;have aE:=KK D.length hk;unfold Op.eqFields;rw[if_pos h3];simp[ax3,a8 pre xs hp (by omega),a8 ar ys a7 (by omega),ax9,ih.1 g.type D F d (by omega) _ _ b0 b4 aE.1 w]
       cases hb:gW (xs.take D.length) (ys.take D.length)with
       |false=>rw[hb,Bool.false_and]at az;simp [az]
       |true=>
        rw[hb,Bool.true_and]at az;rw[az];simp[av2,av7,if_false];have:=ih.2 (off+D.length) r q hq d (by omega) (pre++xs.take D.length) (xs.drop D.length) (ys.drop D.length) (ar++ys.take D.length) (by rw[au5,aw7,hp];omega) (by rw[au5,aw7,a7];omega) b3 b5 aE.2 w
        rw[aw9,ax4,aw9,ax4]at this;exact this
      ·cases h
     ·cases h
    ·cases h
theorem arB{c d:DC}{b:Bool}(h:Gl c d=some b):∃v u,sI c=some v/\sI d=some u/\F2 v u=true/\sJ v u=b:=by
 unfold Gl at h;split at h<;>first|(cases h;done)|skip
 ·split at h
  ·rename_i e;subst e;cases h;exact⟨_,_,rfl,rfl,by simp [F2],by simp [sJ];rfl⟩
  ·grind
 all_goals (cases h;refine⟨_,_,rfl,rfl,rfl,?_⟩)
 ·rfl
 ·rfl
 ·rfl
 ·rfl
 ·rename_i a b;simp[sJ,acd]
theorem arA:∀{l q:List DC} {b:Bool},Bb l q=some b->∃vs us,fG l=some vs/\fG q=some us/\lD vs us=true/\gW vs us=b:=by
 intro l
 induction l with
 |nil=>intro q b h;cases q with
  |nil=>cases h;exact⟨[],[],rfl,rfl,rfl,rfl⟩
  |cons=>cases h
 |cons c r J=>
  intro q b h;cases q with
  |nil=>cases r<;>cases h
  |cons d q=>
   have go:∀{a D:Bool},Gl c d=some a->Bb r q=some D->(a&&D)=b->∃vs us,fG (c::r)=some vs/\fG (d::q)=some us/\lD vs us=true/\gW vs us=b:=by intro a D h1 h2 F;obtain⟨v,u,g1,g2,g3,g4⟩:=arB h1;obtain⟨vs,us,k1,k2,k3,k4⟩:=J h2;refine⟨v::vs,u::us,by unfold fG;rw[g1,k1],by unfold fG;rw[g2,k2],by unfold lD;rw[g3,k3];rfl,by unfold gW;rw[g4,k4];exact F⟩
   cases r with
   |nil=>grind[Bb]
   |cons e t=>grind[Bb]
theorem aaS:∀{l:List Nat} {q:List DC} {vs:List Value},F9 l q=true->fG q=some vs->iD l vs=true:=by
 intro l
 induction l with
 |nil=>intro q vs h D;cases q with
  |nil=>cases D;rfl
  |cons=>cases h
 |cons k r F=>
  intro q vs h D;cases q with
  |nil=>cases h
  |cons c q=>
   unfold F9 at h;rw[au0]at h;unfold fG at D;split at D
   ·rename_i v J h1 h2;cases D;unfold iD;rw[au0];refine⟨?_,F h.2 h2⟩;have h0:=h.1;unfold adJ at h0;split at h0<;>first|(cases h0;done)|(cases h1;rfl)
   ·grind
section
variable {R:Type} {y:R}
theorem bE{b:Bool}{k:Option R}(h:only b k=some y):b=true/\k=some y:=by cases b with|true=>exact⟨rfl,h⟩|false=>cases h
theorem il{c:Prop}[Decidable c]{k:Option R}(h:J c k=some y):c/\k=some y:=by grind[J]
theorem ef{x:Option DS}{k:DS->Option R}(h:dU x k=some y):∃v,x=some v/\k v=some y:=by
 cases x with
 |none=>cases h
 |some v=>exact⟨v,rfl,h⟩
theorem ZC{α:Type}{l:List α}{i:Int}{K:α->Option R}(h:(ag l i).bind K=some y):∃(n:Nat) (x:α),i=n/\l[n]? =some x/\K x=some y:=by grind[ag]
theorem Kj{K:Nat->Option R}:∀{n:Nat} {i:Int},Au n i K=some y->∃q,q<n/\i=(q:Int)/\K q=some y
 |n+1,i,h=>by
  unfold Au at h;split at h
  ·grind
  ·obtain⟨q,h1,h2⟩:=Kj h;grind
section
variable {P:Program} {ty:TypeId}
theorem r6{agg:Bool}{n:Nat}(h:nI P ty=some (agg,n))(w:World):(isAgg ty).run P w=.ok agg w/\(sizeOf ty).run P w=.ok n w:=by
 unfold nI at h;split at h
 all_goals first|(cases h;done)|skip
 all_goals
  rename_i i hu D;simp[Prod.mk.injEq]at h;obtain⟨rfl,rfl⟩:=h;refine⟨?_,by simp [Go.sizeOf,typeInfo,D]⟩
 ·simp [Go.isAgg,run_underlying hu]
 ·simp [Go.isAgg,run_underlying hu]
 ·rename_i d h1 h2 hu;cases d<;>first|(exact(h1 _ hu).elim)|(exact(h2 _ _ hu).elim)|simp [Go.isAgg,run_underlying hu]
theorem pf{e:TypeId}{n b:Nat}(h:fZ P ty=some (e,n,b)):∃inf z,P.underlying ty=some (.slice e)/\P.info? e=some inf/\inf.zero=some z/\inf.size=n/\inf.bytes=b/\z.cells.size=n/\0<n:=by grind[fZ]
theorem TF(h:(fZ P ty).isSome=true):∃e n b,fZ P ty=some (e,n,b):=by obtain⟨⟨e,n,b⟩,h⟩:=aB0.1 h;exact⟨e,n,b,h⟩
theorem acE{f off n:Nat}{agg:Bool}(h:HL P ty f=some (off,n,agg)):∃D d,P.underlying ty=some (.struct D)/\D[f]? =some d/\d.offset=off/\nI P d.type=some (agg,n)/\0<n:=by grind[HL]
theorem add_plain(b i n:Nat):(⟨b,i,none⟩:Addr).add n=⟨b,i+n,none⟩:=by simp[Addr.add]
theorem Kk{f off n:Nat}{agg:Bool}(h:HL P ty f=some (off,n,agg))(w:World)(b i:Nat):(Instr.fieldAt ty (.pointer (some ⟨b,i,none⟩)) f).run P w=.ok (.pointer (some ⟨b,i+off,none⟩)) w:=by
 obtain⟨J,d,hu,D,h1,h2,L⟩:=acE h;have F:n≠0:=by omega
 simp [Instr.fieldAt,run_underlying hu,D,Instr.sureAddr,fieldPlace,(r6 h2 w).2,F,add_plain]
theorem Tz{l:List Value}(h:vk P ty=some l)(w:World):∃z:Value,z.cells.toList=l/\(zeroValue ty).run P w=.ok z w/\∃i,P.info? ty=some i/\i.zero=some z:=by
 unfold vk at h;split at h<;>try (cases h;done)
 split at h<;>try (cases h;done)
 rename_i i D _ z F;injection h with h;exact⟨z,h,by simp [zeroValue,typeInfo,D,F],i,D,F⟩
theorem aaG(h:MB P ty=true):∃e,P.underlying ty=some (.pointer e):=by grind[MB]
theorem Ae(h:sj P ty=true):P.underlying ty=some .string:=by grind[sj]
theorem aog(h:Tn P ty=true):P.underlying ty=some .bool:=by grind[Tn]
end
section
variable {c:Cx} {h:Hp} {w:World} {u:Value}
theorem jT{H:ax}{k g:Nat}{o:aR}(e:rowAt H k g=some o):aj H k=some o/\cD o g=some (some (bc o))/\∃hs ty wd,cX o=some (hs,ty,wd)/\g=hs.length:=by
 unfold rowAt at e;split at e<;>try (cases e;done)
 all_goals
  split at e<;>try (cases e;done)
  rename_i D;obtain rfl:=aw6 D;cases e;exact⟨by assumption,by simp [cD,cX],_,_,_,rfl,rfl⟩
theorem iO{H:ax}(hs:∀k o,aj H k=some o->h k=some o){k g:Nat}{p:PK}{o:aR}(e:rowAt H k g=some o)(D:CR c h w u (.ow k g p)):∃hs ty wd,cX o=some (hs,ty,wd)/\PV p (bc o) wd (c.m k) u:=by obtain⟨h1,h2,U,ty,wd,N,O⟩:=jT e;obtain⟨_,o',F,D⟩:=D;rw[hs k o h1]at F;cases F;obtain⟨n,J,Y,Z,ah,L,M⟩:=D;rw[h2]at J;cases J;exact⟨_,_,_,L,(M _ rfl).2 rfl⟩
theorem Aw{H:ax}(hs:∀k o,aj H k=some o->h k=some o){k i:Nat}{ty:TypeId}{l:List DC}(e:aj H k=some (.var ty l))(D:CR c h w u (.ptr k i)):∃b,c.m k=.pointer (some ⟨b,0,none⟩)/\u=.pointer (some ⟨b,i,none⟩):=by obtain⟨_,o',F,D⟩:=D;rw[hs k _ e]at F;cases F;exact D.2
theorem abD{H:ax}(hs:∀k o,aj H k=some o->h k=some o){x:DC}(F:Nq H x=true)(D:CR c h w u x):∃a,u=.pointer (some a):=by
 unfold Nq at F;split at F
 ·obtain⟨_,_,_,_,_,_,e⟩:=D;grind
 ·obtain⟨b,o,e,_⟩:=D;grind
 ·obtain⟨_,b,o,e,_⟩:=D;grind
 ·obtain⟨o,e⟩:=aB0.1 F;obtain⟨_,_,_,_,_,_,_,_,e⟩:=iO hs e D;grind
 ·obtain⟨o,e⟩:=aB0.1 F;obtain⟨_,_,_,_,_,_,_,_,e⟩:=iO hs e D;grind
 ·grind
theorem ZU{x:DC}{b:Bool}(D:MK x=some b)(F:CR c h w u x):u=.bool b:=by
 unfold MK at D;split at D<;>first|(cases D;done)|(cases D)
 ·exact F.2.symm
 ·exact F
end
theorem asA{k:IntKind}{n:Int}{K:DS->Option R}(h:HV k n K=some y):K (.c (.v (.int k) (k.wrap n)))=some y:=by
 unfold HV at h;split at h
 ·omega
 ·obtain⟨h1,h2⟩:=il h;rw[RX h1];omega
def my(P:Program)(op:BinOp)(ty:TypeId)(U:Value->Value->Prop)(K:DS->Option R)(y:R):Prop:=
 ∃v,K v=some y/\∀u D,U u D->∃z,(∀X Y:Operand,∀w,(eqGuard op ty X Y u D).run P w=.ok () w)/\(∀w,(binOp op ty u D).run P w=.ok z w)/\∀c h w,SR c h w z v
abbrev Cm(a b u D:Value):Prop:=u=a/\D=b
theorem my.two{P:Program}{op:BinOp}{ty:TypeId}{a b z:Value}{v:DS}{K:DS->Option R}(h:K v=some y)(h1:∀X Y:Operand,∀w,(eqGuard op ty X Y a b).run P w=.ok () w)(h2:∀w,(binOp op ty a b).run P w=.ok z w)(F:∀c h w,SR c h w z v):my P op ty (Cm a b) K y:=
 ⟨v,h,λu J ⟨e,D⟩=>by subst e;subst D;exact⟨z,h1,h2,F⟩⟩
theorem my.mono{P:Program}{op:BinOp}{ty:TypeId}{U F:Value->Value->Prop}{K:DS->Option R}(hu:∀u D,F u D->U u D)(J:my P op ty U K y):my P op ty F K y:=by obtain⟨v,h1,h2⟩:=J;exact⟨v,h1,λu D q=>h2 u D (hu u D q)⟩
theorem ark{P:Program}{op:BinOp}{ty:TypeId}{k:IntKind}{a b:Int}{K:DS->Option R}(h:UB op k a b K=some y):my P op ty (Cm (.int k a) (.int k b)) K y:=by
 have D:∀X Y:Operand,∀w,(eqGuard op ty X Y (.int k a) (.int k b)).run P w=.ok () w:=λX Y w=>by unfold eqGuard;simp
 cases op<;>simp[UB]at h<;>first|(cases h;done)|skip
 all_goals first
  |exact .two (z:=.int k _) (asA h) D (λw=>by simp [binOp,Op.intArith]) λ_ _ _=>⟨rfl,rfl⟩
  |(obtain⟨h1,h2⟩:=il h;exact .two (z:=.int k _) h2 D (λw=>by simp [binOp,Op.intDiv,h1]) λ_ _ _=>⟨rfl,rfl⟩)
  |exact .two (z:=.int k _) h D (λw=>by simp [binOp,intBits_and,intBits_or,intBits_xor,intBits_andNot]) λ_ _ _=>⟨rfl,rfl⟩
  |exact .two (z:=.bool _) h D (λw=>by simp [binOp];rfl) λ_ _ _=>⟨rfl,rfl⟩
theorem anB{P:Program}{op:BinOp}{ty:TypeId}{k D:IntKind}{a b:Int}{K:DS->Option R}(h:TG op k a b K=some y):my P op ty (Cm (.int k a) (.int D b)) K y:=by
 cases op<;>simp[TG]at h<;>first|(cases h;done)|skip
 all_goals
  obtain⟨h1,h2⟩:=il h;have h0:¬b<0:=by omega
  exact .two (z:=.int k _) h2 (λX Y w=>by unfold eqGuard;simp) (λw=>by simp [binOp,Op.shift,h0]) λ_ _ _=>⟨rfl,rfl⟩
theorem aoN(a b:List UInt8):(⟨a.toArray⟩++⟨b.toArray⟩:ByteArray)=⟨(a++b).toArray⟩:=rfl
theorem aqR{P:Program}{op:BinOp}{ty:TypeId}{a b:List UInt8}{K:DS->Option R}(h:Ut op a b K=some y):my P op ty (Cm (.string ⟨a.toArray⟩) (.string ⟨b.toArray⟩)) K y:=by
 have D:∀X Y:Operand,∀w,(eqGuard op ty X Y (.string ⟨a.toArray⟩) (.string ⟨b.toArray⟩)).run P w=.ok () w:=λX Y w=>by unfold eqGuard;simp
 cases op<;>simp[Ut]at h<;>first|(cases h;done)|skip
 ·obtain⟨h1,h2⟩:=il h;refine .two (z:=.string ⟨(a++b).toArray⟩) h2 D (λw=>?_) λ_ _ _=>⟨rfl,rfl⟩;have hm:¬((((⟨a.toArray⟩:ByteArray).size+(⟨b.toArray⟩:ByteArray).size:Nat):Int)>IntKind.i64.max):=by simp only[show∀l:List UInt8,(⟨l.toArray⟩:ByteArray).size=l.length from λl=>rfl];simp;omega
  grind[binOp,Op.stringOp,ay1,aoN]
 all_goals exact .two (z:=.bool _) h D (λw=>by simp [binOp,Op.stringOp,acd]) λ_ _ _=>⟨rfl,rfl⟩
theorem as1{P:Program}{op:BinOp}{ty:TypeId}{k:FloatKind}{a b:Nat}{r:Bool}{K:DS->Option R}(hf:fB op k a b=some r)(h:K (iw r)=some y):my P op ty (Cm (.float k a) (.float k b)) K y:=by
 refine .two (z:=.bool r) h (λX Y w=>by unfold eqGuard;cases op<;>simp) (λw=>?_) λ_ _ _=>⟨rfl,rfl⟩
 cases op<;>simp[fB]at hf<;>first|(cases hf;done)|(cases hf)
 all_goals (simp [binOp,Op.floatCmp];done)
theorem AH{P:Program}{op:BinOp}{ty:TypeId}{U:Value->Value->Prop}{b:Bool}{C:Bool->DS}{K:DS->Option R}(hC:∀b c h w,SR c h w (.bool b) (C b))(he:∀u D,U u D->(∀op X Y w,(eqGuard op ty X Y u D).run P w=.ok () w)/\(∀w,(Op.equalIn (9999+1) ty u D).run P w=.ok b w)/\
  ∀op,op=.eql\/op=.neq->∀w,(binOp op ty u D).run P w=(do let q<-Op.equal ty u D;pure (.bool (if op=.eql then q else !q)):Sem Value).run P w)(h:rp op (λb=>K (C b)) b=some y):my P op ty U K y:=by
 cases op<;>simp[rp]at h<;>first|(cases h;done)|skip
 ·refine⟨_,h,λu D q=>?_⟩;obtain⟨h1,h2,F⟩:=he u D q;exact⟨.bool b,h1 _,λw=>by rw[F _ (.inl rfl)];simp [show(Op.equal ty u D).run P w=_ from h2 w],hC _⟩
 ·refine⟨_,h,λu D q=>?_⟩;obtain⟨h1,h2,F⟩:=he u D q;exact⟨.bool (!b),h1 _,λw=>by rw[F _ (.inr rfl)];simp [show(Op.equal ty u D).run P w=_ from h2 w],hC _⟩
theorem SR.iw(b:Bool)(c:Cx)(h:Hp)(w:World):SR c h w (.bool b) (iw b):=⟨rfl,rfl⟩
theorem SR.oK(b:Bool)(c:Cx)(h:Hp)(w:World):SR c h w (.bool b) (oK b):=rfl
theorem abY{c:Cx}{h:Hp}{w:World}{u v:Value}{x:DC}(D:CR c h w u x)(he:sI x=some v):u=v:=by
 unfold sI at he;split at he<;>first|(cases he;done)|(cases he)
 all_goals first|exact D|exact D.2.symm
theorem Ap{c:Cx}{h:Hp}{w:World}{us:List Value}{l:List DC}(F:au (CR c h w) us l):∀{vs:List Value},fG l=some vs->us=vs:=by
 induction F with
 |nil=>simp[fG]
 |cons h1 _ L=>
  intro vs he;unfold fG at he;split at he
  ·rename_i J D;injection he with he;rw[<-he,abY h1 J,L D]
  ·grind
theorem FQ{c:Cx}{h:Hp}{w:World}{u v:Value}{x:DS}(D:SR c h w u x)(he:vo x=some v):u=v:=by
 cases x with
 |c x=>exact abY D he
 |agg l=>
  obtain⟨vs,rfl,h1⟩:=D;simp[vo]at he;split at he
  ·rename_i J F;injection he with he;rw[<-he,Ap h1 F]
  ·grind
 |_=>cases he
theorem arI{P:Program}{H:ax}{op:BinOp}{ty:TypeId}{x x':DS}{K:DS->Option R}(hc:UH P H op ty x x' K=some y):my P op ty (λu F=>∃c h w,(∀k o,aj H k=some o->h k=some o)/\SR c h w u x/\SR c h w F x') K y:=by
 have fn:∀{U:Value->Value->Prop},(∀u F,U u F->∃f vs us,u=.func (.func f) vs us/\F=.nilFunc)->M1 P ty=true->rp op (λb=>K (oK b)) false=some y->my P op ty U K y:=λhU h1 h2=>by
  unfold M1 at h1;split at h1
  ·rename_i he;exact AH SR.oK (λu F q=>by obtain⟨f,vs,us,rfl,rfl⟩:=hU u F q;exact⟨λop X Y w=>by unfold eqGuard;cases op<;>simp,λw=>by unfold Op.equalIn;simp [run_underlying he],λop J w=>by rcases J with rfl|rfl<;>simp [binOp]⟩) h2
  ·cases h1
 have M:∀{t O:Ty} {a:den t} {b:den O} {A B:Value},(∀c h w u,SR c h w u (.c (.v t a))->u=A)->(∀c h w u,SR c h w u (.c (.v O b))->u=B)->my P op ty (Cm A B) K y->my P op ty (λu F=>∃c h w,(∀k o,aj H k=some o->h k=some o)/\SR c h w u (.c (.v t a))/\SR c h w F (.c (.v O b))) K y:=
  λh1 h2 L=>L.mono λu F ⟨c,h,w,_,e,D⟩=>⟨h1 _ _ _ _ e,h2 _ _ _ _ D⟩
 unfold UH at hc;split at hc
 ·split at hc
  ·exact M (λ_ _ _ _ e=>e.2.symm) (λ_ _ _ _ e=>e.2.symm) (anB hc)
  ·split at hc
   ·rename_i e;subst e;exact M (λ_ _ _ _ e=>e.2.symm) (λ_ _ _ _ e=>e.2.symm) (ark hc)
   ·cases hc
 ·exact M (λ_ _ _ _ e=>e.2.symm) (λ_ _ _ _ e=>e.2.symm) (aqR hc)
 ·split at hc
  ·rename_i e;subst e;split at hc
   ·exact M (λ_ _ _ _ e=>e.2.symm) (λ_ _ _ _ e=>e.2.symm) (as1 (by omega) hc)
   ·cases hc
  ·cases hc
 ·split at hc<;>try (cases hc;done)
  split at hc<;>try (cases hc;done)
  rename_i b ls n L an hg N _ hf;rw[au0]at hf;obtain⟨vs,us,h1,h2,h3,h4⟩:=arA L
  have ah:∀Z:List Value,j5 P ty Z=.agg Z.toArray:=λZ=>by
   unfold nI at N;unfold j5;split at N<;>first|(cases N;done)|skip
   ·rename_i hu _;rw[hu]
   ·rename_i hu _;rw[hu]
  refine AH SR.iw (λu F ⟨c,h,w,_,hu,ar⟩=>?_) hc;obtain⟨a1,rfl,hv⟩:=hu;obtain⟨aE,rfl,az⟩:=ar;obtain rfl:=Ap hv h1;obtain rfl:=Ap az h2;refine⟨λop X Y w=>by unfold eqGuard;cases op<;>simp [hg],λw=>?_,λop J w=>by rcases J with rfl|rfl<;>simp [binOp]⟩
  have:=(are P 20).1 ty ls an 10000 (by simp) a1 aE (aaS hf.1 h1) (aaS hf.2 h2) h3 w
  rw[ah,ah,h4]at this;exact this
 ·obtain⟨h1,h2⟩:=bE hc;exact fn (λu F ⟨c,h,w,_,⟨vs,us,e,_⟩,D⟩=>⟨_,_,_,e,D⟩) h1 h2
 ·obtain⟨h1,h2⟩:=bE hc;exact fn (λu F ⟨c,h,w,_,e,D⟩=>⟨_,_,_,e,D⟩) h1 h2
 ·obtain⟨h1,h2⟩:=bE hc;obtain⟨e,n,b,h1⟩:=TF h1;obtain⟨_,_,hu,_⟩:=pf h1;exact AH SR.oK (λu F ⟨c,h,w,_,e,D⟩=>by have e:u=_:=e;have D:F=_:=D;subst e;subst D;exact⟨λop X Y w=>by unfold eqGuard;cases op<;>simp,λw=>by unfold Op.equalIn;simp [run_underlying hu],λop J w=>by rcases J with rfl|rfl<;>simp [binOp]⟩) h2
 ·obtain⟨h1,h2⟩:=bE hc;obtain⟨e,he⟩:=aaG h1;exact AH SR.oK (λu F ⟨c,h,w,_,e,D⟩=>by have e:u=_:=e;have D:F=_:=D;subst e;subst D;exact⟨λop X Y w=>by unfold eqGuard;cases op<;>simp,λw=>by unfold Op.equalIn;simp [run_underlying he],λop J w=>by rcases J with rfl|rfl<;>simp [binOp]⟩) h2
 ·obtain⟨h1,h2⟩:=bE hc;rw[au0]at h1;obtain⟨e,he⟩:=aaG h1.1;exact AH SR.oK (λu F ⟨c,h,w,hs,e,D⟩=>by obtain⟨ad,rfl⟩:=abD hs h1.2 e;have D:F=_:=D;subst D;exact⟨λop X Y w=>by unfold eqGuard;cases op<;>simp,λw=>by unfold Op.equalIn;simp [run_underlying he],λop J w=>by rcases J with rfl|rfl<;>simp [binOp]⟩) h2
 ·split at hc<;>try (cases hc;done)
  rename_i a b ha L;obtain⟨h1,h2⟩:=bE hc;exact AH SR.iw (λu F ⟨c,h,w,hs,e,D⟩=>by obtain rfl:=ZU ha e;obtain rfl:=ZU L D;exact⟨λop X Y w=>by unfold eqGuard;cases op<;>simp,λw=>by unfold Op.equalIn;simp [run_underlying (aog h1)],λop J w=>by rcases J with rfl|rfl<;>simp [binOp]⟩) h2
 ·cases hc
end
def bu(h H:Hp):Hp:=λk=>(H k).or (h k)
abbrev Sub(H:ax)(h:Hp):Prop:= ∀k o,aj H k=some o->h k=some o
theorem bu.self{H:ax}{h:Hp}(hs:Sub H h):bu h (aj H)=h:=by
 funext k;unfold bu;cases e:aj H k with
 |none=>rfl
 |some o=>grind
def St(P:Program)(o:Oper)(σ:cG)(H:ax)(v:DS)(H':ax):Prop:=
 ∀(E:cP) (c:Cx) (h:Hp) (w:World) (a:Act) (N:Act->World->Prop) (Q:Exit->Act->World->Prop),Conc E c h w->Sub H h->(∀k,aj H k=none->aj H' k≠none->h k=none)->(∀x∈o.op.operands,∀d,bq σ x=some d->SR c h w (a.eval x) d)->
  (∀val w' c',Conc E c' (bu h (aj H')) w'->eN c h w c' (bu h (aj H')) w'->SR c' (bu h (aj H')) w' val v->N (a.put o.dst val) w')->o.wp P a w N Q
theorem St.val{P:Program}{o:Oper}{σ:cG}{H:ax}{v:DS}(F:∀(E:cP) (c:Cx) (h:Hp) (w:World) (a:Operand->Value),Conc E c h w->Sub H h->(∀x∈o.op.operands,∀d,bq σ x=some d->SR c h w (a x) d)->∃val,(execOp a o).run P w=.ok (.value val) w/\SR c h w val v):St P o σ H v H:=by intro E c h w a N Q hC hs _ J D;obtain⟨val,h1,h2⟩:=F E c h w a.eval hC hs J;unfold Oper.wp;rw[h1];rw[bu.self hs]at D;exact D val w c hC (eN.refl _ _ _) h2
section
variable {R:Type} {y:R} {P:Program} {ty:TypeId} {c:Cx} {h:Hp} {w:World} {E:cP} {H:ax} {K:DS->Option R}
theorem cell_of{b:Nat}{cs:Array Value}{e:TypeId}{D:Nat×Nat}(h:w.heap[b]? =some (.cells cs e D))(i:Nat):w.cell? ⟨b,i,none⟩=cs[i]? :=by simp [World.cell?,h]
theorem Conc.R4(hC:Conc E c h w){k b:Nat}{l:List DC}(F:h k=some (.var ty l))(hm:c.m k=.pointer (some ⟨b,0,none⟩))(h0:au9 ty iQ=false):CG c h w (λj v=>w.cell? ⟨b,j,none⟩=some v) l:=by obtain⟨J,cs,h1,h2,D⟩:=hC.obj k _ F;rw[ua h0]at h2;rw[hm]at h1;injection h1 with h1;injection h1 with h1;cases h1;exact CG.of D λi v L=>by rw[cell_of h2];grind
theorem eB.cell{e:TypeId}{n m:Nat}{v:Value}{xs:List Value}(L:eB w e n v m xs){b l cap:Nat}(D:v=.slice (some ⟨b,0,none⟩) l cap):∀(i:Nat) u,xs[i]? =some u->w.cell? ⟨b,i,none⟩=some u:=by
 intro i u hu;rcases L with⟨a,_,_,rfl⟩|⟨g,M,cur,F,h2,_,_,_,J⟩
 ·grind
 ·rw[F]at D;injection D with D;injection D with D;cases D;rw[cell_of h2];rw[<-J,List.getElem?_take]at hu;split at hu
  ·grind
  ·grind
theorem nG.row{k:Nat}{o:aR}(D:nG c h w k o){hs:List (Option Nat)}{wd:Nat}(e:cX o=some (hs,ty,wd)):0<wd/\∃xs,eB w ty wd (c.m k) (bc o) xs/\au (CR c h w) xs (dT o):=by
 cases o with
 |var=>cases e
 |_=>obtain⟨_,_,_,xs,h1,h2,F,J⟩:=D;grind
theorem Conc.aaa(hC:Conc E c h w){k b l cap:Nat}{o:aR}(D:h k=some o){hs:List (Option Nat)}{wd:Nat}(e:cX o=some (hs,ty,wd))(hm:c.m k=.slice (some ⟨b,0,none⟩) l cap):CG c h w (λj v=>w.cell? ⟨b,j,none⟩=some v) (dT o):=by obtain⟨_,xs,h1,h2⟩:=(hC.obj k o D).row e;exact CG.of h2 (h1.cell hm)
theorem akP{agg:Bool}{n:Nat}(hs:nI P ty=some (agg,n))(J:(agg||n==1)=true){b i:Nat}{cs:List Value}(D:cs.length=n)(hc:∀(j:Nat) v,cs[j]? =some v->w.cell? ⟨b,i+j,none⟩=some v):
  (loadVar ty ⟨b,i,none⟩).run P w=.ok (if agg then .agg cs.toArray else cs.headD undef) w:=by
 unfold loadVar;simp[(r6 hs w).1];cases agg with
 |true=>
  simp[(r6 hs w).2];rw[<-D,run_loadCells_list w _ cs (λj v F=>by rw[add_plain];exact hc j v F)]
  simp
 |false=>
  have h1:n=1:=by grind
  subst h1;obtain⟨v,rfl⟩:=List.length_eq_one_iff.1 D;have h0:=hc 0 v rfl;grind
theorem Z5{agg:Bool}{n i:Nat}{l:List DC}(L:(agg||n==1)=true)(J:i+n<=l.length){vs:List Value}(F:au (CR c h w) vs l):SR c h w (if agg then .agg ((vs.drop i).take n).toArray else((vs.drop i).take n).headD undef) (po agg n l i):=by
 have h1:=(F.drop i).take n;unfold po;cases agg with
 |true=>exact⟨_,rfl,h1⟩
 |false=>
  have h2:n=1:=by grind
  subst h2
  have e:(l.drop i).take 1=[l.getD i .dead]:=by
   have D:i<l.length:=by omega
   rw[av6 D,aC3,au4 D];rfl
  rw[e]at h1;generalize(vs.drop i).take 1=q at h1;cases h1 with
  |cons h1 t=>exact h1
theorem wH{agg:Bool}{n:Nat}(hs:nI P ty=some (agg,n)){b o i:Nat}{l:List DC}(D:((agg||n==1)&&decide (i+n<=l.length))=true){g:Nat->Value->Prop}(F:∀j v,g j v->w.cell? ⟨b,o+j,none⟩=some v)(hc:CG c h w g l):
  ∃z,(Instr.loadAt ty (.pointer (some ⟨b,o+i,none⟩))).run P w=.ok z w/\SR c h w z (po agg n l i):=by
 rw[au0,decide_eq_true_eq]at D;obtain⟨vs,h1,h2⟩:=hc.list;refine⟨_,?_,Z5 D.1 D.2 h1⟩;have hlen:=h1.len;have:=akP (w:=w) hs D.1 (b:=b) (i:=o+i) (cs:=(vs.drop i).take n) (by grind) λj v J=>by grind
 simp[Instr.loadAt,Instr.sureAddr,this]
theorem ar2{o:aR}{t:Ty}{l:List (den t)}(J:(∃hs e,o=.row hs e t l)\/∃hs e q,o=.bF hs e t false l q){i:Nat}{x:den t}(F:l[i]? =some x):∃r,(dT o).drop (i*wid t)=cA t x++r:=by
 obtain⟨r,D⟩:=E' F;rcases J with⟨hs,e,rfl⟩|⟨hs,e,q,rfl⟩
 ·exact⟨r,D⟩
 ·have:i*wid t<=(aQ t l).length:=by rw[ik];exact az8 _ (aB7 (ay9.1 F).1)
  exact⟨r++q,by show(aQ t l++q).drop _=_;rw[aG8 this,D,aw9]⟩
def Il(P:Program)(H:ax)(x:DS)(f:Value->Sem Value)(v:DS):Prop:= ∀E c h w u,Conc E c h w->Sub H h->SR c h w u x->∃z,(f u).run P w=.ok z w/\SR c h w z v
theorem apI{x:DS}(D:Ud P H ty x K=some y):∃v,K v=some y/\Il P H x (Instr.loadAt ty) v:=by
 unfold Ud at D;split at D<;>try (cases D;done)
 ·rename_i agg n k i hs;split at D<;>try (cases D;done)
  rename_i F;obtain⟨h1,h2⟩:=bE D;rw[au0,ay6]at h1;obtain⟨h0,h1⟩:=h1;refine⟨_,h2,λE c h w u hC J hu=>?_⟩;obtain⟨b,hm,rfl⟩:=Aw (w:=w) J F hu;have:=wH (P:=P) hs h1 (b:=b) (o:=0) (λj v L=>by rw[ax2];exact L) (hC.R4 (J _ _ F) hm h0)
  grind
 ·rename_i agg n t x i hs;obtain⟨h1,h2⟩:=bE D;refine⟨_,h2,λE c h w u hC J ⟨b,o,e,N⟩=>?_⟩;subst e;rw[<-ja t x]at h1;exact wH (P:=P) hs h1 (λj v L=>L.2) ((CG.tr t).2 N)
 ·rename_i agg n t x hs;obtain⟨h1,h2⟩:=bE D;refine⟨_,h2,λE c h w u hC J ⟨_,b,o,e,N⟩=>?_⟩;subst e;rw[<-ja t x]at h1;exact wH (P:=P) hs h1 (λj v L=>L.2) ((CG.tr t).2 N)
 ·rename_i agg n k g i j hs
  have key:∀{o:aR} {t:Ty} {l:List (den t)} {x:den t},rowAt H k g=some o->((∃hs e,o=.row hs e t l)\/∃hs e q,o=.bF hs e t false l q)->l[i]? =some x->((agg||n==1)&&decide (j+n<=wid t))=true->Il P H (.c (.ow k g (.el i j))) (Instr.loadAt ty) (po agg n (cA t x) j):=by
   intro o t l x F N hx h1 E c h w u hC J hu;obtain⟨ah,e,wd,M,_,b,cap,hm,rfl⟩:=iO (w:=w) J F hu;have an:wd=wid t:=by rcases N with⟨_,_,rfl⟩|⟨_,_,_,rfl⟩<;>(injection M with M;simp[Prod.mk.injEq]at M;exact M.2.2.symm)
   subst an;rw[<-ja t x]at h1;obtain⟨r,O⟩:=ar2 N hx;exact wH (P:=P) hs h1 (λ_ _ L=>L) ((hC.aaa (J _ _ (jT F).1) M hm).part O)
  split at D<;>try (cases D;done)
  ·rename_i F;obtain⟨h1,h2⟩:=bE D;grind
  ·rename_i hq Z t' U l' q' F;obtain⟨h1,h2⟩:=bE D;obtain⟨h0,h2⟩:=bE h2;obtain⟨x,Y,h4⟩:=ay0.1 h2;obtain rfl:U=false:=by grind
   grind
 ·rename_i agg n k g j hs;split at D<;>try (cases D;done)
  rename_i hq Z t U l last F;obtain⟨h1,h2⟩:=bE D;obtain⟨h0,Y⟩:=bE h2;rw[au0]at h0;obtain rfl:U=false:=by grind
  refine⟨_,Y,λE c h w u hC J hu=>?_⟩;obtain⟨ah,e,wd,M,_,b,cap,hm,rfl⟩:=iO (w:=w) J F hu;injection id M with O;simp[Prod.mk.injEq]at O;obtain⟨_,_,rfl⟩:=O;exact wH (P:=P) hs h1 (λ_ _ L=>L) ((hC.aaa (J _ _ (jT F).1) M hm).part (q:=last) (r:=[]) (by show(aQ t l++last).drop ((l.length+1-1)*wid t)=_;rw[aG8 (by rw[ik];exact at9 _),az3 (by rw[ik];exact at9 _)];simp))
theorem Ay{k g:Nat}{p:PK}{o:aR}{u:Value}(M:Sub H h)(L:rowAt H k g=some o)(h1:u.oneCell'=true)(hp:∀hs e wd,cX o=some (hs,e,wd)->PV p (bc o) wd (c.m k) u):CR c h w u (.ow k g p):=by obtain⟨F,J,hs,e,wd,D,_⟩:=jT L;exact⟨h1,o,M _ _ F,_,J,_,_,_,D,λm hm=>by cases hm;exact⟨at9 _,λ_=>hp _ _ _ D⟩⟩
theorem ajS{x:DS}{f:Nat}(D:Ru P H ty x f K=some y):∃v,K v=some y/\Il P H x (λu=>Instr.fieldAt ty u f) v:=by
 unfold Ru at D;split at D<;>try (cases D;done)
 ·rename_i hf;refine⟨_,D,λE c h w u hC F hu=>?_⟩;obtain⟨_,o,N,O,b,hm,rfl⟩:=hu;exact⟨_,Kk hf w b _,rfl,o,N,O,b,hm,rfl⟩
 ·rename_i hf;refine⟨_,D,λE c h w u hC F ⟨b,o,e,L⟩=>?_⟩;subst e;exact⟨_,Kk hf w b _,b,o,by rw[aC9],L⟩
 ·rename_i hf;refine⟨_,D,λE c h w u hC F ⟨_,b,o,e,L⟩=>?_⟩;subst e;exact⟨_,Kk hf w b _,b,o,rfl,L⟩
 all_goals
  rename_i hf;obtain⟨h0,h1⟩:=bE D;obtain⟨o,M⟩:=aB0.1 h0;refine⟨_,h1,λE c h w u hC F hu=>?_⟩;obtain⟨Z,e,wd,Y,U,b,cap,hm,rfl⟩:=iO (w:=w) F M hu;exact⟨_,Kk hf w b _,Ay (w:=w) F M rfl λhs e ah J=>by rw[Y]at J;simp[Prod.mk.injEq]at J;exact⟨U,b,cap,hm,by rw[<-J.2.2,aC9]⟩⟩
theorem int_eq{k:IntKind}{n:Int}{u:Value}(hu:SR c h w u (.c (.v (.int k) n))):u=.int k n:=hu.2.symm
theorem acS(A:Nat->Nat->Prop)(w:World)(b o k:Nat):(λj=>Fz A w b o (k+j))=Fz A w b (o+k):=by grind[Fz,aC9]
theorem ajR{x ix:DS}(L:Rp P H ty x ix K=some y):∃v,K v=some y/\∀E c h w u N,Conc E c h w->Sub H h->SR c h w u x->SR c h w N ix->∃z,(Instr.indexAt ty u N).run P w=.ok z w/\SR c h w z v:=by
 have sl:∀{e:TypeId} {n b':Nat},fZ P ty=some (e,n,b')->∀{w:World} {b o len cap i:Nat} {kd:IntKind},i<len->(Instr.indexAt ty (.slice (some ⟨b,o,none⟩) len cap) (.int kd i)).run P w=.ok (.pointer (some ⟨b,o+i*n,none⟩)) w:=λhs=>by intro w b o len cap i kd hi;obtain⟨inf,z,hu,aE,_,a7,_⟩:=pf hs;simp [Instr.indexAt,asIntOf,run_underlying hu,hi,Nat.not_le.2 hi,Go.sizeOf,typeInfo,aE,a7,add_plain]
 have ar:∀{len n:Nat},arr P ty=some (len,n)->∀{w:World} {b o i:Nat} {kd:IntKind},i<len->(Instr.indexAt ty (.pointer (some ⟨b,o,none⟩)) (.int kd i)).run P w=.ok (.pointer (some ⟨b,o+i*n,none⟩)) w:=λU=>by
  intro w b o i kd hi;unfold arr at U;split at U<;>try (cases U;done)
  split at U<;>try (cases U;done)
  rename_i l e hu _ inf aE;injection U with U;simp[Prod.mk.injEq]at U;obtain⟨rfl,rfl⟩:=U;simp [Instr.indexAt,asIntOf,run_underlying hu,Instr.sureAddr,hi,Nat.not_le.2 hi,Go.sizeOf,typeInfo,aE,add_plain]
 unfold Rp at L;split at L<;>try (cases L;done)
 ·rename_i e n b' t l k i hs;obtain⟨h1,h2⟩:=bE L;obtain⟨m,x,rfl,D,h4⟩:=ZC h2;refine⟨_,h4,λE c h w u N hC J hu O=>?_⟩;obtain rfl:=int_eq O;obtain⟨_,a,cap,rfl,Y⟩:=hu;rcases Y with rfl|⟨_,_,b,o,rfl,Y⟩
  ·cases D
  ·have hw:wid t=n:=by grind
   exact⟨_,sl hs (ay9.1 D).1,b,o+m*n,rfl,by rw[<-hw,<-acS];exact Y m x D⟩
 ·rename_i e n b' k g k' i hs;split at L<;>try (cases L;done)
  ·rename_i Z;obtain⟨h1,h2⟩:=bE L;obtain⟨D,h4⟩:=il h2;refine⟨_,h4,λE c h w u N hC J hu O=>?_⟩;obtain rfl:=int_eq O;obtain⟨a6,e',wd,Y,hm⟩:=iO (w:=w) J Z hu;obtain⟨_,xs,ah,_⟩:=(hC.obj k _ (J _ _ (jT Z).1)).row Y;obtain⟨i,rfl⟩:∃j:Nat,i=j:=⟨aB1 i,(aA7 D.1).symm⟩;have D:=Int.ofNat_lt.1 D.2;rcases ah with⟨_,_,h0,_⟩|⟨b,cap,cur,F,_⟩
   ·simp only[bc]at h0;omega
   ·injection id Y with an;simp[Prod.mk.injEq]at an;have hw:=eq_of_beq h1;rw[show u=c.m k from hm,F]
    refine⟨_,sl hs (by simp[bc];omega),Ay (w:=w) J Z rfl λhs e a1 M=>?_⟩
    rw[Y]at M;simp[Option.some.injEq,Prod.mk.injEq]at M;exact⟨by simp[bc];omega,b,_,F,by simp [<-M.2.2,<-an.2.2,hw]⟩
  ·rename_i hq e' t' e0 l q' Z;obtain⟨h1,h2⟩:=bE L;obtain⟨h0,D⟩:=bE h2;obtain⟨D,h4⟩:=il D;obtain rfl:e0=false:=by grind
   have key:∀E c h w (u N),Conc E c h w->Sub H h->SR c h w u (.c (.ow k g .all))->SR c h w N (.c (.v (.int k') i))->∃b cap,c.m k=.slice (some ⟨b,0,none⟩) (l.length+1) cap/\N=.int k' i.toNat/\(Instr.indexAt ty u N).run P w=.ok (.pointer (some ⟨b,0+i.toNat*wid t',none⟩)) w:=by
    intro E c h w u N hC J hu O;obtain rfl:=int_eq O;obtain⟨a6,e',wd,Y,hm⟩:=iO (w:=w) J Z hu;obtain⟨_,xs,ah,_⟩:=(hC.obj k _ (J _ _ (jT Z).1)).row Y;obtain⟨i,rfl⟩:∃j:Nat,i=j:=⟨aB1 i,(aA7 D.1).symm⟩;have D:=aF2.1 D.2;rcases ah with⟨_,_,h0,_⟩|⟨b,cap,cur,F,_⟩
    ·cases h0
    ·have hw:=eq_of_beq h1;rw[show u=c.m k from hm,F,hw]
     exact⟨b,_,rfl,rfl,sl hs (Nat.lt_succ_of_le D)⟩
   cases az:decide (i=l.length)with
   |true=>
    rw[az,cond_true]at h4;refine⟨_,h4,λE c h w u N hC J hu O=>?_⟩;obtain⟨b,cap,F,_,e3⟩:=key E c h w u N hC J hu O;refine⟨_,e3,Ay (w:=w) J Z rfl λhs e a1 M=>?_⟩;injection M with M;simp[Prod.mk.injEq]at M;have:aB1 i=l.length:=by rw[of_decide_eq_true az];exact av0 _
    exact⟨Nat.succ_pos _,b,_,F,by rw[<-M.2.2,this];simp [bc]⟩
   |false=>rw[az,cond_false]at h4;refine⟨_,h4,λE c h w u N hC J hu O=>?_⟩;obtain⟨b,cap,F,_,e3⟩:=key E c h w u N hC J hu O;refine⟨_,e3,Ay (w:=w) J Z rfl λhs e a1 M=>?_⟩;injection M with M;simp[Prod.mk.injEq]at M;exact⟨Nat.lt_succ_of_le (Int.toNat_le.2 D.2),b,_,F,by simp [<-M.2.2]⟩
 ·rename_i e n b' k g i k' q hs;split at L<;>try (cases L;done)
  rename_i Z;obtain⟨h1,h2⟩:=bE L;obtain⟨D,h4⟩:=il h2;refine⟨_,h4,λE c h w u N hC J hu O=>?_⟩;obtain rfl:=int_eq O;obtain⟨a6,e',wd,Y,h5,h6,b,cap,hm,rfl⟩:=iO (w:=w) J Z hu;obtain⟨q,rfl⟩:∃j:Nat,q=j:=⟨aB1 q,(aA7 D.1).symm⟩;have D:=Int.ofNat_lt.1 D.2;injection id Y with an;simp[Prod.mk.injEq]at an;have hw:=eq_of_beq h1;obtain⟨_,xs,ah,_⟩:=(hC.obj k _ (J _ _ (jT Z).1)).row Y
  have qX:cap≠i:=by
   rcases ah with⟨_,F,_⟩|⟨b2,cp,cur,F,_,h7,_⟩
   ·rw[hm]at F;injection F with _ F;simp only[bc]at F h6;omega
   ·rw[hm]at F;injection F with _ F e2;simp[bc]at h7;omega
  rw[if_neg qX];refine⟨_,sl hs (by simp[bc];omega),Ay (w:=w) J Z rfl λhs e a1 M=>?_⟩
  rw[Y]at M;simp[Option.some.injEq,Prod.mk.injEq]at M;exact⟨by simp[bc];omega,b,_,hm,by rw[<-M.2.2,<-an.2.2,hw,av0,aA0];simp⟩
 ·split at L<;>try (cases L;done)
  rename_i U;obtain⟨q,h1,h2,D⟩:=Kj L;refine⟨_,D,λE c h w u N hC J ⟨b,o,e,ht⟩ O=>?_⟩;subst e;obtain rfl:=int_eq O;rw[h2];exact⟨_,ar U h1,b,o,by rw[aC9],ht⟩
 ·split at L<;>try (cases L;done)
  rename_i U;obtain⟨q,h1,h2,D⟩:=Kj L;refine⟨_,D,λE c h w u N hC J hu O=>?_⟩;obtain rfl:=int_eq O;rw[h2];obtain⟨_,o,F,e2,b,hm,rfl⟩:=hu;exact⟨_,ar U h1,rfl,o,F,e2,b,hm,rfl⟩
end
section
variable {R:Type} {y:R} {P:Program} {ty:TypeId} {c:Cx} {h:Hp} {w:World} {E:cP} {H H':ax} {σ:cG} {K:DS->Option R} {dst:Option Tmp} {ty0:TypeId} {pos:String} {af:Array Edge} {g:Option (Nat×Bool)} {op:Op}
theorem st1{x:Operand}{d v:DS}{f:Value->Sem Value}(J:bq σ x=some d)(hf:Il P H d f v)(D:x∈op.operands)(he:∀(a:Operand->Value) w z,(f (a x)).run P w=.ok z w->(execOp a ⟨dst,op,ty0,pos,af,g⟩).run P w=.ok (.value z) w):St P ⟨dst,op,ty0,pos,af,g⟩ σ H v H:=
 St.val λE c h w a hC hs F=>by obtain⟨z,h1,h2⟩:=hf E c h w _ hC hs (F x D d J);grind
theorem st2{x x':Operand}{d D v:DS}{f:Value->Value->Sem Value}(N:bq σ x=some d)(O:bq σ x'=some D)(hf:∀E c h w u J,Conc E c h w->Sub H h->SR c h w u d->SR c h w J D->∃z,(f u J).run P w=.ok z w/\SR c h w z v)(L:x∈op.operands)(M:x'∈op.operands)
  (he:∀(a:Operand->Value) w z,(f (a x) (a x')).run P w=.ok z w->(execOp a ⟨dst,op,ty0,pos,af,g⟩).run P w=.ok (.value z) w):St P ⟨dst,op,ty0,pos,af,g⟩ σ H v H:=
 St.val λE c h w a hC hs F=>by obtain⟨z,h1,h2⟩:=hf E c h w _ _ hC hs (F x L d N) (F x' M D O);grind
theorem ard{x:DS}(D:UA P H ty x K=some y):∃v,K v=some y/\Il P H x (λu=>Builtin.len_ #[ty] ty0 #[u]) v:=by
 have sl:(fZ P ty).isSome=true->∀{w:World} {a:Option Addr} {len cap:Nat},(Builtin.len_ #[ty] ty0 #[.slice a len cap]).run P w=.ok (.int .i64 len) w:=λhs=>by obtain⟨e,n,b,hs⟩:=TF hs;obtain⟨_,_,hu,_⟩:=pf hs;intro w a len cap;simp [Builtin.len_,run_underlying hu,goInt]
 unfold UA at D;split at D<;>try (cases D;done)
 ·obtain⟨h1,h2⟩:=bE D;refine⟨_,h2,λE c h w u hC F hu=>?_⟩;obtain⟨_,a,cap,rfl,_⟩:=hu;exact⟨_,sl h1,rfl,rfl⟩
 ·split at D<;>try (cases D;done)
  all_goals
   rename_i J;obtain⟨h1,h2⟩:=bE D;refine⟨_,h2,λE c h w u hC F hu=>?_⟩;obtain⟨Y,N,wd,M,hm⟩:=iO (w:=w) F J hu;obtain⟨_,xs,U,_⟩:=(hC.obj _ _ (F _ _ (jT J).1)).row M;rw[show u=c.m _ from hm]
   rcases U with⟨a,L,O,_⟩|⟨b,cap,cur,L,_⟩
   ·rw[L];exact⟨_,sl h1,by have:=O;simp[bc]at this;rw[this];exact⟨rfl,rfl⟩⟩
   ·rw[L];exact⟨_,sl h1,rfl,rfl⟩
 ·split at D<;>try (cases D;done)
  rename_i J;obtain⟨h1,h2⟩:=bE D;refine⟨_,h2,λE c h w u hC F hu=>?_⟩;obtain⟨Y,N,wd,M,_,_,b,cap,_,rfl⟩:=iO (w:=w) F J hu;exact⟨_,sl h1,rfl,rfl⟩
 ·obtain⟨h1,h2⟩:=bE D;refine⟨_,h2,λE c h w u hC F hu=>?_⟩;have hu:=hu;subst hu;exact⟨_,sl h1,rfl,rfl⟩
 ·obtain⟨h1,h2⟩:=bE D;refine⟨_,h2,λE c h w u hC F hu=>?_⟩;obtain⟨a,rfl⟩:=hu;exact⟨_,sl h1,rfl,rfl⟩
 ·obtain⟨h1,h2⟩:=bE D;refine⟨_,h2,λE c h w u hC F hu=>?_⟩;have e:=hu.2;subst e;exact⟨_,by simp [Builtin.len_,run_underlying (Ae h1)];rfl,rfl,rfl⟩
def xi(a:Operand->Value)(o:Option Operand)(d l:Nat):Prop:=match o with|some y=>∃D,a y=.int D l|none=>l=d
theorem vq{o:Option Operand}{q:Option DS}{d:Nat}{l:Int}(F:ya σ o=some q)(D:A4 q d=some l)(h0:0<=l){a:Operand->Value}(J:∀x∈o,∀d,bq σ x=some d->SR c h w (a x) d):xi a o d l.toNat:=by
 cases o with
 |none=>cases F;cases D;rfl
 |some x=>
  unfold ya at F;split at F
  ·grind
  ·rename_i x M;cases M;split at F
   ·rename_i v L;cases F;unfold A4 at D;split at D<;>try (cases D;done)
    ·grind
    ·rename_i he;cases he;cases D;exact⟨_,by rw[int_eq (J x rfl _ L),aA7 h0]⟩
   ·grind
theorem Tu{x:Operand}{Y N:Option Operand}{e:TypeId}{n b:Nat}(hs:fZ P ty=some (e,n,b)){a:Operand->Value}{ad:Option Addr}{len cap l k:Nat}(F:a x=.slice ad len cap)(L:xi a Y 0 l)(J:xi a N len k)(h1:l<=k)(h2:k<=cap):
  (execOp a ⟨dst,.slice ty x Y N none,ty0,pos,af,g⟩).run P w=.ok (.value (.slice (if cap=l then ad else ad.map (·.add (l*n))) (k-l) (cap-l))) w:=by
 obtain⟨inf,z,hu,an,_,ar,_⟩:=pf hs;have M:(sizeOf e).run P w=.ok n w:=by simp [Go.sizeOf,typeInfo,an,ar]
 have Z:∀D,(Instr.sliceBound (.int D k) cap .sliceAcap).run P w=.ok k w:=λD=>by simp [Instr.sliceBound,asIntOf];omega
 have ah:∀D,(Instr.sliceBound (.int D l) k .sliceB).run P w=.ok l w:=λD=>by simp [Instr.sliceBound,asIntOf];omega
 cases Y<;>cases N
 ·subst L;subst J;simp[execOp,Instr.sliceAt,ax3,run_underlying hu,ax9,F,Instr.slice,Instr.sliceBounds,aD1,M,if_true]
 ·subst L;obtain⟨D,O⟩:=J;simp[execOp,Instr.sliceAt,ax3,run_underlying hu,ax9,F,Instr.slice,Instr.sliceBounds,aD1,ay1,M,O,Z]
 ·obtain⟨kl,U⟩:=L;subst J;simp only[execOp,Instr.sliceAt,ax3,run_underlying hu,ax9,F,Instr.slice,Instr.sliceBounds,aD1,az7,ay1,M,U,aE0,av7,if_false,ah]
 ·obtain⟨kl,U⟩:=L;obtain⟨D,O⟩:=J;simp only[execOp,Instr.sliceAt,ax3,run_underlying hu,ax9,F,Instr.slice,Instr.sliceBounds,aD1,az7,ay1,M,if_true,O,U,aE0,av7,if_false,Z,ah]
theorem Lo(l:List UInt8)(i j:Nat):(⟨l.toArray⟩:ByteArray).extract i j=⟨((l.take j).drop i).toArray⟩:=by apply ByteArray.ext;apply Array.ext';simp [List.drop_take]
theorem ao8(hs:sj P ty=true){x:Operand}{Y N:Option Operand}{a:Operand->Value}{s:List UInt8}{l k:Nat}(F:a x=.string ⟨s.toArray⟩)(L:xi a Y 0 l)(J:xi a N s.length k)(h1:l<=k)(h2:k<=s.length):
  (execOp a ⟨dst,.slice ty x Y N none,ty0,pos,af,g⟩).run P w=.ok (.value (.string ⟨((s.take k).drop l).toArray⟩)) w:=by
 have hu:=Ae hs;have M:(⟨s.toArray⟩:ByteArray).size=s.length:=rfl;have Z:∀D,(Instr.sliceBound (.int D k) s.length .sliceAlen).run P w=.ok k w:=λD=>by simp [Instr.sliceBound,asIntOf];omega
 have ah:∀D,(Instr.sliceBound (.int D l) k .sliceB).run P w=.ok l w:=λD=>by simp [Instr.sliceBound,asIntOf];omega
 cases Y<;>cases N
 ·subst L;subst J;simp[execOp,Instr.sliceAt,ax3,run_underlying hu,F,Instr.slice,Instr.sliceBounds,aD1,av7,Lo,M]
 ·subst L;obtain⟨D,O⟩:=J;simp[execOp,Instr.sliceAt,ax3,run_underlying hu,F,O,Instr.slice,Instr.sliceBounds,az7,if_false,ay1,Lo,M,Z]
 ·obtain⟨kl,U⟩:=L;subst J;simp[execOp,Instr.sliceAt,ax3,run_underlying hu,F,U,Instr.slice,Instr.sliceBounds,az7,aE0,if_false,ay1,Lo,M,ah]
 ·obtain⟨kl,U⟩:=L;obtain⟨D,O⟩:=J;simp only[execOp,Instr.sliceAt,ax3,run_underlying hu,ax9,F,O,U,Instr.slice,Instr.sliceBounds,aD1,az7,aE0,av7,if_false,ay1,Lo,M,Z,ah]
theorem arH{t:Ty}{rows:List (den t)}{x:Operand}{J D:Option Operand}{e:TypeId}{b l k:Nat}(hs:fZ P ty=some (e,wid t,b)){a:Operand->Value}(U:SR c h w (a x) (.c (.v (.sl t) rows)))(O:xi a J 0 l)(N:xi a D rows.length k)(h1:l<=k)(h2:k<=rows.length):
  ∃z,(execOp a ⟨dst,.slice ty x J D none,ty0,pos,af,g⟩).run P w=.ok (.value z) w/\SR c h w z (.c (.v (.sl t) ((rows.take k).drop l))):=by
 obtain⟨_,ad,cap,M,F⟩:=U;have hk:k<=cap:=by grind
 have hlen:((rows.take k).drop l).length=k-l:=by grind
 refine⟨_,Tu hs M.symm O N h1 hk,rfl,_,_,by rw[hlen],?_⟩
 rw[hlen];by_cases h0:k-l=0
 ·grind
 ·rcases F with rfl|⟨Y,Z,L,o,rfl,F⟩
  ·grind
  ·refine .inr ⟨by omega,by omega,L,o+l*wid t,by rw[if_neg (by omega)];simp [add_plain],λi q hq=>?_⟩
   grind[acS]
theorem aoi{x U:DS}(D:TQ P ty x U K=some y):∃v,K v=some y/\∀E c h w u J,Conc E c h w->Sub H h->SR c h w u x->SR c h w J U->∃z,(Instr.index ty u J).run P w=.ok z w/\SR c h w z v:=by
 unfold TQ at D;split at D<;>try (cases D;done)
 ·rename_i s k i;obtain⟨h1,h2⟩:=bE D;obtain⟨m,b,rfl,L,M⟩:=ZC h2;refine⟨_,M,λE c h w u J hC ah hu O=>?_⟩;obtain rfl:=int_eq O;have e:=hu.2;subst e;have hs:(⟨s.toArray⟩:ByteArray)[m]? =some b:=by obtain⟨N,F⟩:=ay9.1 L;rw[getElem?_pos (⟨s.toArray⟩:ByteArray) m N,<-F];rfl
  exact⟨.int .u8 b.toNat,by simp [Instr.index,asIntOf,run_underlying (Ae h1),hs],rfl,rfl⟩
 ·rename_i l k i;split at D<;>try (cases D;done)
  rename_i len e an;split at D<;>try (cases D;done)
  rename_i hs;obtain⟨h1,h2⟩:=bE D;obtain⟨q,L,M,N⟩:=Kj h2;refine⟨_,N,λE c h w u J hC ah hu O=>?_⟩;obtain rfl:=int_eq O;obtain⟨vs,rfl,hr⟩:=hu;have hl:=aw6 h1;have Z:l[q]? =some (l.getD q .dead):=by rw[aC3,au4 (by omega)];rfl
  obtain⟨v,F,Y⟩:=hr.get Z;have ar:=(ay9.1 F).1;rw[M];refine⟨v,?_,Y⟩;simp [Instr.index,asIntOf,run_underlying an,(r6 hs w).1,(r6 hs w).2,part,L,F]
theorem uk{t:Ty}(hs:lS t=true){x:DC}{d:den t}(he:rq t x=some d){v:Value}(D:CR c h w v x):CR c h w v (.v t d):=by
 unfold rq at he;split at he
 ·split at he
  ·grind
  ·split at he<;>try (cases he;done)
   split at he<;>try (cases he;done)
   rename_i e _;obtain⟨e⟩:=e;subst e;cases he;exact⟨rfl,D.2⟩
 ·cases he;exact⟨rfl,(show v=_ from D).symm⟩
 ·cases he;exact⟨rfl,none,0,(show v=_ from D).symm,.inl rfl⟩
 ·cases he;obtain⟨a,rfl⟩:=D;exact⟨rfl,a,0,rfl,.inl rfl⟩
 ·cases he;exact⟨rfl,(show v=_ from D).symm⟩
 ·grind
theorem Fv{f:(t:Ty)->DC->Option (den t)}{Q Q':Value->DC->Prop}(hf:∀t x d v,lS t=true->f t x=some d->Q v x->Q' v (.v t d)):(t:Ty)->∀{l r:List DC} {x:den t},mo f t l=some (x,r)->∃D,l=D++r/\∀vs,au Q vs D->au Q' vs (cA t x):=by
 have one:∀{t:Ty} {a:DC} {l r:List DC} {x:den t},lS t=true->qP (f t a) l=some (x,r)->∃D,a::l=D++r/\∀vs,au Q vs D->au Q' vs (cA t x):=λhs he=>by
  unfold qP at he;split at he<;>try (cases he;done)
  rename_i a l r x y O;injection he with he;injection he with h1 h2;subst h1;subst h2;refine⟨[_],rfl,λvs F=>?_⟩;rw[al1 hs];cases F with
  |cons h1 t1=>cases t1;exact .cons (hf _ _ _ _ hs O h1) .nil
 intro t
 induction t with
 |pair a b U Y=>
  intro l r x he;unfold mo at he;split at he<;>try (cases he;done)
  rename_i x1 r1 h1;split at he<;>try (cases he;done)
  rename_i y1 q1 h2;injection he with he;injection he with M N;subst M;subst N;obtain⟨D,rfl,g1⟩:=U h1;obtain⟨Z,rfl,g2⟩:=Y h2;refine⟨D++Z,by rw[aw9],λvs F=>?_⟩
  have e:=F.len;rw[au5]at e;have J:=F.take D.length;have L:=F.drop D.length;rw[aB2]at J;rw[aC2]at L;rw[<-ax4 D.length vs];exact(g1 _ J).app (g2 _ L)
 |unit=>intro l r x he;unfold mo at he;injection he with he;injection he with h1 h2;subst h2;exact⟨[],rfl,λvs F=>by cases F;exact .nil⟩
 |_=>
  intro l r x he;cases l with
  |nil=>cases he
  |cons a l=>exact one rfl he
theorem Fa{α:Type}{o:Option (α×List DC)}{x:α}(he:pI o=some x):o=some (x,[]):=by
 unfold pI at he;split at he
 ·grind
 ·grind
theorem Ad{t:Ty}{l:List DC}{x:den t}(he:qN t l=some x){vs:List Value}(D:au (CR c h w) vs l):au (CR c h w) vs (cA t x):=by obtain⟨J,e,h1⟩:=Fv (Q:=CR c h w) (Q':=CR c h w) (λt x d v hs F D=>uk hs F D) t (Fa he);rw[aw5]at e;subst e;exact h1 vs D
theorem cells_one{v:Value}(h1:v.oneCell'=true):v.cells.toList=[v]:=by cases v<;>first|rfl|cases h1
theorem wq{v:Value}{x:DS}{l:List DC}(F:SR c h w v x)(D:cellsD x=some l):au (CR c h w) v.cells.toList l:=by
 unfold cellsD at D;split at D<;>try (cases D;done)
 ·cases D;rw[cells_one (CR.one F)];exact .cons F .nil
 ·cases D;obtain⟨vs,rfl,h1⟩:=F;exact h1
 ·cases D;obtain⟨vs,us,rfl,h1,h2⟩:=F;cases h1;cases h2;exact .cons rfl .nil
def eD{α:Type}(l:List α)(i:Nat)(xs:List α):List α:=l.take i++xs++l.drop (i+xs.length)
theorem Qo{α:Type}{l:List α}{i:Nat}{xs:List α}(h:i+xs.length<=l.length):(eD l i xs).length=l.length:=by grind[eD]
theorem au.eD{α β:Type}{Q:α->β->Prop}{l xs:List α}{q ys:List β}(h1:au Q l q)(h2:au Q xs ys)(i:Nat):au Q (eD l i xs) (eD q i ys):=by unfold Fx.eD;rw[h2.len];exact((h1.take i).app h2).app (h1.drop _)
theorem aoV(off:Nat):∀(l:List Value) (s:Nat) (cs:Array Value),off+s+l.length<=cs.size->((l.zipIdx s).foldl (λcs (x:Value×Nat)=>cs.setIfInBounds (off+x.2) x.1) cs).toList=eD cs.toList (off+s) l:=by
 intro l
 induction l with
 |nil=>intro s cs _;simp [eD]
 |cons x t F=>
  intro s cs h;simp[av1]at h;rw[List.zipIdx_cons,List.foldl_cons,F (s+1) _ (by grind)]
  have D:off+s<cs.toList.length:=by grind
  simp[eD];rw[show off+(s+1)=off+s+1 by omega,List.take_set,List.drop_set,if_pos (by omega)]
  rw[List.take_succ_eq_append_getElem D];simp [aF3 (aB7 (show off+s<cs.size by omega))]
  omega
def ot(pl:Nat->Option (Nat×Nat))(cl:List DC):List (Nat×List DC)->Option (List DC)
 |[]=>some cl
 |(i,l)::r=>match pl i with
  |some (off,size)=>if l.length=size/\off+size<=cl.length then ot pl (eD cl off l) r else none
  |none=>none
theorem SB{Q:Value->DC->Prop}{pl:Nat->Option (Nat×Nat)}{ps:List (Nat×List DC)}{parts:List (Nat×Value)}(hp:au (λp q=>p.1=q.1/\au Q p.2.cells.toList q.2) parts ps):∀{cells:Array Value} {cl r:List DC},au Q cells.toList cl->ot pl cl ps=some r->
  ∃J,Instr.fill pl cells parts=some J/\au Q J.toList r:=by
 induction hp with
 |nil=>intro cells cl r hc D;cases D;exact⟨cells,rfl,hc⟩
 | @cons p q _ _ h1 _ N=>
  obtain⟨i,v⟩:=p;obtain⟨j,l⟩:=q;obtain⟨e,h1⟩:=h1;have e:=e;subst e;intro cells cl r hc D;unfold ot at D;split at D<;>try (cases D;done)
  rename_i off size F;split at D<;>try (cases D;done)
  rename_i hs;have L:=h1.len;have M:=hc.len;simp[Array.length_toList]at L M;unfold Instr.fill;have F:=F;rw[F];simp only;rw[if_neg (by grind)]
  refine N (cl:=eD cl off l) ?_ D;rw[<-Array.foldl_toList,Array.toList_zipIdx,aoV off v.cells.toList 0 cells (by grind)]
  exact hc.eD h1 off
theorem acW{v:Value}{x:DC}(D:vD v=some x):CR c h w v x:=by
 unfold vD at D;split at D<;>first|(cases D;done)|(cases D)
 all_goals first|rfl|exact⟨rfl,rfl⟩|skip
theorem As:∀{vs:List Value} {l:List DC},xQ vs=some l->au (CR c h w) vs l
 |[],l,e=>by cases e;exact .nil
 |v::vs,l,e=>by
  unfold xQ at e;split at e<;>try (cases e;done)
  cases e;exact .cons (acW (by omega)) (As (by omega))
theorem M6:(t:Ty)->(d:den t)->∀x∈cA t d,∃J F,x=DC.v J F
 |.pair a b,d,x,D=>by
  rcases av3.1 (show x∈cA a d.1++cA b d.2 from D)with D|D
  ·exact M6 a _ x D
  ·exact M6 b _ x D
 |.unit,d,x,D=>by cases D
 |.int _,d,x,D |.bool,d,x,D |.str,d,x,D |.gK _,d,x,D |.sl _,d,x,D |.ptr _,d,x,D |.opt _,d,x,D |.val,d,x,D=>⟨_,d,aw0.1 D⟩
theorem uA{t:Ty}:∀(l:List (den t)),∀x∈aQ t l,∃J F,x=DC.v J F
 |y::l,x,D=>by
  rcases av3.1 (show x∈cA t y++aQ t l from D)with D|D
  ·exact M6 t y x D
  ·exact uA l x D
end
section
variable {R:Type} {y:R} {P:Program} {ty:TypeId} {c:Cx} {h:Hp} {w w':World} {E:cP} {H H':ax} {σ:cG} {K:DS->Option R} {dst:Option Tmp} {ty0:TypeId} {pos:String} {af:Array Edge} {g:Option (Nat×Bool)} {op:Op}
theorem bu.set(hs:Sub H h)(k:Nat)(o:aR):bu h (aj (oset H k o))=bK h k (some o):=by
 funext j;rw[ij];unfold bu bK;by_cases e:j=k
 ·grind
 ·rw[if_neg e,if_neg e];exact congrFun (bu.self hs) j
theorem T4(c:Cx)(h:Hp)(k:Nat)(v:Value)(o:aR):∀j,j≠k->bK h k (some o) j=h j/\(⟨bK c.m k v,c.A⟩:Cx).m j=c.m j:=λj D=>⟨gP D,gP D⟩
theorem eB.one{e:TypeId}{n m:Nat}{v:Value}{xs:List Value}(D:eB w e n v m xs):v.oneCell'=true:=by rcases D with⟨_,rfl,_⟩|⟨_,_,_,rfl,_⟩<;>rfl
theorem Conc.setRow(hC:Conc E c h w){k:Nat}{o':aR}{hs:List (Option Nat)}{n:Nat}(D:cX o'=some (hs,ty,n))(L:0<n){v':Value}(U:Ext (Bl c h k) w w')(hm:∀b,dZ v'=some b->Bl c h k b\/w.heap.size<=b){s:Bool}(N:s=true->E.H k=none)(M:dw k=false)(Y:∀o,h k=some o->OL s (c.m k) o v' o')
  {xs:List Value} (F:eB w' ty n v' (bc o') xs) (O:au (CR c h w) xs (dT o')):∃c',Conc E c' (bK h k (some o')) w'/\eN c h w c' (bK h k (some o')) w'/\CR c' (bK h k (some o')) w' v' (.ow k hs.length .all)/\c'.m k=v':=by
 have hk:(⟨bK c.m k v',c.A⟩:Cx).m k=v':=fh _ _ _
 obtain⟨h1,h2⟩:=hC.put k (o':=o') (c':=⟨bK c.m k v',c.A⟩) (h':=bK h k (some o')) (w':=w') (fh _ _ _) (T4 c h k v' o') rfl U (by grind) (.inl M) N (by grind) λJ=>by
  cases o' with
  |var=>cases D
  |_=>exact⟨_,_,_,xs,D,L,by rw[hk];exact F,O.mono λ_ _=>CR.fM J⟩
 exact⟨_,h1,h2,⟨F.one,o',fh _ _ _,some (bc o'),by simp [cD,D],_,_,_,D,λm e=>by cases e;exact⟨at9 _,λ_=>hk.symm⟩⟩,hk⟩
theorem Conc.newVar(hC:Conc E c h w){k:Nat}(hk:h k=none)(M:dw k=false)(ty:TypeId)(h0:au9 ty iQ=false){cs:List Value}{l:List DC}(N:au (CR c h w) cs l):
  ∃c',Conc E c' (bK h k (some (.var ty l))) (w.alloc (.cells cs.toArray ty))/\eN c h w c' (bK h k (some (.var ty l))) (w.alloc (.cells cs.toArray ty))/\CR c' (bK h k (some (.var ty l))) (w.alloc (.cells cs.toArray ty)) (.pointer (some ⟨w.heap.size,0,none⟩)) (.ptr k 0):=by
 have J:gv w (w.alloc (.cells cs.toArray ty)):=gv.qv ((Below.refl _ _).alloc (at9 _) _);have e:(⟨bK c.m k (.pointer (some ⟨w.heap.size,0,none⟩)),c.A⟩:Cx).m k=.pointer (some ⟨w.heap.size,0,none⟩):=fh _ _ _;obtain⟨h1,h2⟩:=hC.put k (o':=.var ty l) (c':=⟨bK c.m k (.pointer (some ⟨w.heap.size,0,none⟩)),c.A⟩) (h':=bK h k (some (.var ty l))) (fh _ _ _) (T4 c h k _ _) rfl (J.mono λ_=>False.elim) (s:=false) (by rw[e];intro b D;injection D with D;exact .inr (Nat.le_of_eq D)) (.inl M) (λq=>by cases q) (λo F=>by rw[hk]at F;cases F) λL=>⟨w.heap.size,cs.toArray,e,by rw[ua h0];exact heap_alloc_new w _,N.mono λ_ _=>CR.fM L⟩
 exact⟨_,h1,h2,rfl,_,fh _ _ _,⟨_,_,rfl⟩,_,e,rfl⟩
theorem Sk{e:TypeId}{t:Ty}{v:Value}{l:List (den t)}{xs:List Value}(D:eB w e (wid t) v l.length xs)(L:au (CR c h w) xs (aQ t l))(hA:∀b i,dZ v=some b->c.A b i):CR c h w v (.v (.sl t) l):=by
 have hc:= @eB.cell w _ _ _ _ _ D;rcases D with⟨a,rfl,h0,_⟩|⟨b,cap,cur,rfl,h2,F,J,_⟩
 ·obtain rfl:=az2.1 h0;exact⟨rfl,a,0,rfl,.inl rfl⟩
 ·refine⟨rfl,_,_,rfl,.inr ⟨F,J,b,0,rfl,CG.flat.1 (CG.of (h:=h) L λi u hu=>⟨hA _ _ rfl,?_⟩)⟩⟩;grind
theorem Conc.frozen(hC:Conc E c h w)(J:gv w w'){e:TypeId}{t:Ty}{v:Value}{l:List (den t)}{xs:List Value}(D:eB w' e (wid t) v l.length xs)(F:∀b,dZ v=some b->w.heap.size<=b)(L:au (CR c h w) xs (aQ t l)):∃c',Conc E c' h w'/\eN c h w c' h w'/\CR c' h w' v (.v (.sl t) l):=by
 obtain⟨h1,h2⟩:=hC.A9 J (λb i=>c.A b i\/dZ v=some b) (λb i q=>.inl q) λb i q=>q.imp id λq=>⟨F b q,by
  rcases D with⟨a,rfl,_⟩|⟨M,cap,cur,rfl,h2,_⟩
  ·cases a<;>cases q
  ·obtain rfl:=uj q;exact wc h2⟩
 exact⟨_,h1,h2,Sk D (L.mono λ_ _=>CR.fM h2) λb i q=>.inr q⟩
def Holds(w:World)(n:Nat)(v:Value)(m:Nat)(xs:List Value):Prop:=xs.length=m*n/\∃a cap,v=.slice a m cap/\(m=0\/∃b o,a=some ⟨b,o,none⟩/\∀(i:Nat) u,xs[i]? =some u->w.cell? ⟨b,o+i,none⟩=some u)
theorem R7{t:Ty}{l:List (den t)}{v:Value}(F:CR c h w v (.v (.sl t) l)):∃xs,Holds w (wid t) v l.length xs/\au (CR c h w) xs (aQ t l):=by
 obtain⟨_,a,cap,rfl,D⟩:=F;rcases D with rfl|⟨_,_,b,o,rfl,D⟩
 ·exact⟨[],⟨by simp,_,_,rfl,.inl rfl⟩,.nil⟩
 ·obtain⟨xs,h1,h2⟩:=(CG.flat.2 D).list;exact⟨xs,⟨by rw[h1.len,ik],_,_,rfl,.inr ⟨b,o,rfl,λi u hu=>(h2 i u hu).2⟩⟩,h1⟩
theorem TA{e:TypeId}{n b:Nat}(hs:fZ P ty=some (e,n,b))(hb:b<=1000){s x:Operand}{a:Act}{m src:Value}{len l:Nat}{xs news:List Value}(O:eB w e n m len xs)(ah:Holds w n src l news)(bx:∀u∈news,u.oneCell'=true)(b7:len+l<=1000000000)(es:a.eval s=m)(ex:a.eval x=src)
  {N:Act->World->Prop} {Q:Exit->Act->World->Prop} (Y:∀v' w',Ext (λb=>dZ m=some b) w w'->eB w' e n v' (len+l) (xs++news)->(∀b,dZ v'=some b->dZ m=some b\/w.heap.size<=b)->(l=0->v'=m)->N (a.put dst v') w'):
  Oper.wp P ⟨dst,.call {callee:=.builtin .append,args:= #[s,x],argTypes:= #[ty,ty]},ty0,pos,af,g⟩ a w N Q:=by
 obtain⟨inf,z,hu,U,hz,b1,ar,b2,ca⟩:=pf hs;obtain⟨F,ad,cap,rfl,ah⟩:=ah;have fin:∀v' w',(Builtin.append_ #[ty,ty] ty0 #[m,.slice ad l cap]).run P w=.ok v' w'->N (a.put dst v') w'->Oper.wp P ⟨dst,.call {callee:=.builtin .append,args:= #[s,x],argTypes:= #[ty,ty]},ty0,pos,af,g⟩ a w N Q:=λv' w' hr hn=>by unfold Oper.wp execOp;simp[resolve,invoke,builtin,ax3,ay1,ax9,List.map_toArray,aF4,List.map_nil,es,ex,hr];exact hn
 by_cases h0:l=0
 ·subst h0;have b8:news=[]:=az2.1 (by rw[F,Nat.zero_mul])
  subst b8;refine fin m w ?_ (Y m w (Ext.refl _ _) (by simpa using O) (λb q=>.inl q) λ_=>rfl)
  rcases O with⟨J,rfl,_⟩|⟨L,cg,cur,rfl,_,Z,_⟩
  ·cases J<;>cases ad<;>simp [Builtin.append_,run_underlying hu,Go.sizeOf,typeInfo,U,Builtin.lenOf,Builtin.firstCells,loadCells,loadCellsFrom,storeCells]
  ·cases ad<;>simp [Builtin.append_,run_underlying hu,Go.sizeOf,typeInfo,U,Builtin.lenOf,Builtin.firstCells,loadCells,loadCellsFrom,Z,storeCells]
 obtain b4|⟨bs,os,rfl,b6⟩:=ah
 ·exact(h0 b4).elim
 have bp:∀(j:Nat) u,news[j]? =some u->w.cell? ((⟨bs,os,none⟩:Addr).add j)=some u:=λj u q=>by rw[add_plain];exact b6 j u q
 have hbound:(len+l)*b<=140737488355328:=aw8 (aE1 b7 hb) (by decide)
 rcases O with⟨J,rfl,rfl,rfl⟩|⟨L,D,cur,rfl,aE,a1,a6,a7,a8⟩
 ·have cd:Src P inf.size ty (.slice (some ⟨bs,os,none⟩) l cap) l news w:=Src.ofSlice w hu _ _ _ _ (b1▸F) bp bx
  have hf:(Builtin.firstCells inf.size 0 (.slice J 0 0)).run P w.drew=.ok ([]:List Value).toArray w.drew:=by
   cases J with
   |none=>exact run_firstCells_none w.drew _ _ _ _
   |some b3=>exact run_firstCells_some w.drew _ _ b3 _ _ [] (by simp) (by simp)
  have Z:Builtin.nextslicecap (0+l) 0=0+l:=by unfold Builtin.nextslicecap;rw[if_pos (by omega)]
  have b0:=run_append_grow_src (P:=P) w ty ty ty0 e inf z hu U hz J 0 0 [] hf _ l _ cd (by omega) (by omega) (by rw[Z,ar];omega)
  have bb:=grownCap_ge w (0+l) 0 e;have hle:=grownCap_le_maxLen w (0+l) 0 e (by unfold maxLen;omega)
  generalize grownCap w (0+l) 0 e=D at b0 bb hle;obtain⟨D,rfl⟩:∃q,D=q+1:=⟨D-1,by omega⟩
  refine fin _ _ b0 (Y _ _ ((gv.qv (((Below.refl w.heap.size w).drew).alloc (at9 _) _)).mono λ_=>False.elim) (.inr ⟨w.heap.size,D,_,rfl,heap_alloc_new w.drew _,bb,hle,?_,?_⟩) (λb q=>.inr (by rw[uj q];exact at9 _)) λq=>(h0 q).elim)
  ·simp[aB4,Array.size_append,aF5];rw[size_zeroCells,F,b2,<-aA0];congr 1;omega
  ·simp[aB4,Array.toList_append,ax2];rw[aH9 (by simp [F]),aB8 (by simp [F])]
 ·have cc:w.ownsRow 0 e n (.slice (some ⟨L,0,none⟩) len (D+1)) len xs:=⟨(show eB w e n (.slice (some ⟨L,0,none⟩) len (D+1)) len xs from .inr ⟨L,D,cur,rfl,aE,a1,a6,a7,a8⟩).len,.inr ⟨L,D+1,cur,rfl,au2 _,aE,a1,a6,a7,a8⟩⟩
  refine wp_append_lies w s x ty rfl 0 e inf z n b hu U hz b1 ar b2 ca _ len xs es cc ⟨bs,os,none⟩ l cap news ex F bp bx (by omega) (by unfold maxLen;omega) hbound (au2 _) w.heap.size rfl ?_
  intro g0 an w' O M b5 ch;refine Y _ w' ⟨M.os,M.tape,M.output,M.size,λb h1 h2=>M.block b h1 λq=>h2 q.symm⟩ (eB.of O) (λb q=>?_) λq=>(h0 q).elim;cases an with
  |zero=>cases q
  |succ an=>cases q;exact b5.imp id λq=>Nat.le_of_eq q.symm
end
section
variable {R:Type} {y:R} {P:Program} {ty:TypeId} {c:Cx} {h:Hp} {w w':World} {E:cP} {H H':ax} {σ:cG} {K:DS->ax->Option R} {dst:Option Tmp} {ty0:TypeId} {pos:String} {af:Array Edge} {g:Option (Nat×Bool)} {op:Op}
theorem LK{a:Operand->Value}:∀{ps:List (Nat×Operand)} {l:List (Nat×DS)},FN σ ps=some l->(∀p∈ps,∀d,bq σ p.2=some d->SR c h w (a p.2) d)->au (λp q=>p.1=q.1/\SR c h w p.2 q.2) (ps.map λp=>(p.1,a p.2)) l
 |[],l,e,_=>by cases e;exact .nil
 |(i,x)::r,l,e,D=>by
  unfold FN at e;split at e<;>try (cases e;done)
  rename_i J F;cases e;exact .cons ⟨rfl,D _ aw4 _ J⟩ (LK F λp hp=>D p (ax5 _ hp))
theorem abW:∀{ps:List (Nat×DS)} {vs:List (Nat×Value)} {pl:List (Nat×Nat)} {cl r:List DC},au (λp q=>p.1=q.1/\SR c h w p.2 q.2) vs ps->M4 pl cl ps=some r->∃D,au (λp q=>p.1=q.1/\au (CR c h w) p.2.cells.toList q.2) vs D/\ot (λi=>pl[i]?) cl D=some r
 |_,_,pl,cl,r,.nil,e=>⟨[],.nil,e⟩
 |(i,x)::ps,_::vs,pl,cl,r,.cons h1 L,e=>by
  unfold M4 at e;split at e<;>try (cases e;done)
  rename_i off size l hp J;split at e<;>try (cases e;done)
  rename_i hs;obtain⟨D,h2,F⟩:=abW L e;exact⟨(i,l)::D,.cons ⟨h1.1,wq h1.2 J⟩ h2,by unfold ot;simp only[hp];rw[if_pos hs];exact F⟩
theorem abx{t:Ty}:∀{ps:List (Nat×DS)} {vs:List (Nat×Value)} {rows pre:List (den t)},au (λp q=>p.1=q.1/\SR c h w p.2 q.2) vs ps->F3 t pre.length ps=some rows->
  ∃F,au (λp q=>p.1=q.1/\au (CR c h w) p.2.cells.toList q.2) vs F/\ot (λi=>some (i*wid t,wid t)) (aQ t pre++av5 (rows.length*wid t) .dead) F=some (aQ t (pre++rows))
 |_,_,rows,pre,.nil,e=>by cases e;exact⟨[],.nil,by simp [ot]⟩
 |(i,x)::ps,_::vs,rows,pre,.cons h1 U,e=>by
  unfold F3 at e;split at e<;>try (cases e;done)
  rename_i N;split at e<;>try (cases e;done)
  rename_i a l D O;cases e;unfold adt at D;split at D<;>try (cases D;done)
  rename_i cs M;obtain⟨F,h2,L⟩:=abx (pre:=pre++[a]) U (by rw[au5];exact O)
  refine⟨(i,cA t a)::F,.cons ⟨h1.1,Ad D (wq h1.2 M)⟩ h2,?_⟩;have J:(l.length+1)*wid t=wid t+l.length*wid t:=by rw[aA0,aC4,aB6]
  unfold ot;simp only[av1,ja,N];rw[if_pos ⟨trivial,by simp [ik,J]⟩]
  rw[show pre++a::l=pre++[a]++l by simp,<-L,qp,eD,ja,J,<-List.replicate_append_replicate]
  congr 1;rw[aD2 (by rw[ik]),<-aw9,List.drop_left' (by simp [ik])]
  simp [aQ]
theorem Th{e:TypeId}{n b:Nat}(hs:fZ P ty=some (e,n,b)){len:Nat}(an:len*n<=16777216){a:Operand->Value}{parts:List (Nat×Operand)}{Q:Value->DC->Prop}{ps:List (Nat×List DC)}{r:List DC}(hp:au (λp q=>p.1=q.1/\au Q p.2.cells.toList q.2) (parts.map λp=>(p.1,a p.2)) ps)(O:∀v,Q v .dead)
  (L:ot (λi=>some (i*n,n)) (av5 (len*n) .dead) ps=some r):∃cs:List Value,au Q cs r/\(execOp a ⟨dst,.buildSlice ty len parts.toArray,ty0,pos,af,g⟩).run P w=.ok (.value (.slice (some ⟨w.heap.size,0,none⟩) len len)) (w.alloc (.cells cs.toArray e)):=by
 obtain⟨inf,z,hu,F,Y,U,ah,az,ar⟩:=pf hs;have J:¬(len*n>2^24):=by omega
 have M:(sizeOf e).run P w=.ok n w:=by simp [Go.sizeOf,typeInfo,F,U]
 have hm:(parts.toArray.map λ(i,x)=>(i,a x)).toList=parts.map λp=>(p.1,a p.2):=by simp
 have N:∀l:List Value,au Q l (av5 l.length .dead):=λl=>by
  induction l with
  |nil=>exact .nil
  |cons v l ih=>exact .cons (O v) ih
 by_cases h0:len*n=0
 ·obtain⟨D,f1,f2⟩:=SB hp (cells:= #[]) (cl:=av5 (len*n) .dead) (h0▸.nil) L;have Z:∀f:Nat->Value,(Array.range (len*n)).map f= #[]:=λf=>by rw[h0];apply Array.ext';simp
  refine⟨D.toList,f2,?_⟩;simp[execOp,Instr.buildSlice,run_underlying hu,M,if_neg J,if_pos h0,ay1,Z,f1];simp [newRow,Sem.run]
 ·have hzero:(zeroValue e).run P w=.ok z w:=by simp [zeroValue,typeInfo,F,Y]
  obtain⟨D,f1,f2⟩:=SB hp (cells:=(Array.range (len*n)).map (z.cells[· %z.cells.size]!)) (cl:=av5 (len*n) .dead) (by
   have:=N ((Array.range (len*n)).map (z.cells[· %z.cells.size]!)).toList
   grind) L
  refine⟨D.toList,f2,?_⟩;simp[execOp,Instr.buildSlice,ax3,run_underlying hu,M,if_neg J,if_neg h0,hzero,hm,f1];simp [newRow,Sem.run]
theorem eB.lit(w:World){e:TypeId}{n len:Nat}{cs:List Value}(D:cs.length=len*n)(hm:len<=maxLen):eB (w.alloc (.cells cs.toArray e)) e n (.slice (some ⟨w.heap.size,0,none⟩) len len) len cs:=by
 cases len with
 |zero=>exact .inl ⟨_,rfl,rfl,az2.1 (by omega)⟩
 |succ len=>exact .inr ⟨_,len,_,rfl,heap_alloc_new w _,at9 _,hm,by grind,by simp [<-D]⟩
theorem EG(w:World)(o:Obj):gv w (w.alloc o):=gv.qv ((Below.refl _ _).alloc (at9 _) _)
theorem Conc.newRow(hC:Conc E c h w){k:Nat}(hk:h k=none)(L:dw k=false){e:TypeId}{t:Ty}{l:List (den t)}{v:Value}{xs:List Value}(F:0<wid t)(N:Ext (λ_=>False) w w')(J:eB w' e (wid t) v l.length xs)(D:∀b,dZ v=some b->w.heap.size<=b)(M:au (CR c h w) xs (aQ t l)):
  ∃c',Conc E c' (bK h k (some (.row [] e t l))) w'/\eN c h w c' (bK h k (some (.row [] e t l))) w'/\CR c' (bK h k (some (.row [] e t l))) w' v (.ow k 0 .all):=by
 obtain⟨c',h1,h2,O,_⟩:=hC.setRow (k:=k) (o':=.row [] e t l) (s:=false) rfl F (N.mono λ_=>False.elim) (λb q=>.inr (D b q)) (λq=>by cases q) L (λo q=>by rw[hk]at q;cases q) J M
 grind
theorem YY{b p:Nat}{cs:Array Value}{e:TypeId}(D:w.heap[b]? =some (.cells cs e (0,0))){us:List Value}(hf:p+us.length<=cs.size)(F:∀v∈us,v.oneCell'=true):(storeCells ⟨b,p,none⟩ us).run P w=.ok () (w.setRow b (eD cs.toList p us).toArray)/\
  (w.setRow b (eD cs.toList p us).toArray).heap[b]? =some (.cells (eD cs.toList p us).toArray e (0,0))/\Ext (λq=>q=b) w (w.setRow b (eD cs.toList p us).toArray):=by
 refine⟨?_,setRow_heap w b cs _ e _ D,rfl,rfl,rfl,by simp,λq _ J=>setRow_other w b q _ J⟩
 rw[run_storeCells_at (P:=P) b p e us 0 cs w D (by grind) F]
 rfl
theorem wT{us:List Value}{l:List DC}(D:au (CR c h w) us l):∀v∈us,v.oneCell'=true:=by
 induction D with
 |nil=>grind
 |cons h1 _ F=>intro v D;rcases aw2.1 D with rfl|D;exact CR.one h1;grind
theorem Q0{α:Type}{A B C us:List α}{j n:Nat}(F:n=A.length)(D:j+us.length<=B.length):eD (A++B++C) (n+j) us=A++eD B j us++C:=by
 subst F;unfold eD;rw[aw9 A B C,List.take_append,List.drop_append,aB8 (by simp),az3 (by omega),aH9 (by omega),show A.length+j+us.length-A.length=j+us.length by omega,aG8 D]
 simp
theorem Conc.RW(hC:Conc E c h w){k:Nat}{o o':aR}{hs:List (Option Nat)}{n b cap p:Nat}(an:dw k=false)(hk:h k=some o)(J:cX o=some (hs,ty,n))(L:cX o'=some (hs,ty,n))(D:bc o'=bc o)(hm:c.m k=.slice (some ⟨b,0,none⟩) (bc o) cap)(h0:0<bc o){us:List Value}(ah:∀v∈us,v.oneCell'=true)(hf:p+us.length<=bc o*n)
  (hv:∀xs,au (CR c h w) xs (dT o)->au (CR c h w) (eD xs p us) (dT o')):∃c' M,(storeCells ⟨b,p,none⟩ us).run P w=.ok () M/\Conc E c' (bK h k (some o')) M/\eN c h w c' (bK h k (some o')) M:=by
 obtain⟨hn,xs,U,hx⟩:=(hC.obj k o hk).row J;have hlen:=U.len;rcases U with⟨a,_,e2,_⟩|⟨b',Y,cur,F,h2,h3,h4,h5,N⟩
 ·omega
 rw[hm]at F;simp[Option.some.injEq]at F;obtain⟨⟨rfl,_⟩,_,rfl⟩:=F;have ar:bc o*n<=cur.toList.length:=by rw[<-hlen,<-N,aw7];omega
 obtain⟨r1,r2,r3⟩:=YY (P:=P) (p:=p) h2 (us:=us) (by grind) ah
 have O:Bl c h k b:=⟨⟨o,hk⟩,by rw[hm];rfl⟩
 have ht:(eD cur.toList p us).toArray.toList.take (bc o'*n)=eD xs p us:=by
  rw[D];have Z:cur.toList=xs++cur.toList.drop (bc o*n):=by rw[<-N,ax4]
  have:=Q0 (A:=[]) (B:=xs) (C:=cur.toList.drop (bc o*n)) (j:=p) (us:=us) rfl (by omega)
  simp[List.length_nil]at this;rw[<-Z]at this;rw[this,aH9 (by rw[Qo (by omega)];omega),aB8 (by rw[Qo (by omega)];omega)]
 obtain⟨c',g1,g2,_,_⟩:=hC.setRow (k:=k) L hn (v':=c.m k) (s:=false) (r3.mono λq e=>e▸O) (λq e=>.inl (by rw[hm]at e;rw[uj e];exact O)) (λq=>by cases q) an (λo1 e=>by rw[hk]at e;cases e;unfold OL;rw[J];exact⟨_,L,.inl ⟨λg m q=>by unfold cD at q⊢;rw[J]at q;rw[L,D];exact q,.inl ⟨D,rfl⟩⟩⟩) (xs:=eD xs p us) (.inr ⟨b,Y,_,by rw[hm,D],r2,by rw[D];exact h3,h4,by rw[aF5,Qo (by omega)];grind,ht⟩) (hv xs hx)
 grind
end
section
variable {R:Type} {y:R} {P:Program} {ty:TypeId} {c:Cx} {h:Hp} {w w':World} {E:cP} {H H':ax} {σ:cG} {K:DS->ax->Option R} {dst:Option Tmp} {ty0:TypeId} {pos:String} {af:Array Edge} {g:Option (Nat×Bool)} {op:Op} {v:DS}
theorem St.put{o:Oper}{k:Nat}{o':aR}(F:∀(E:cP) (c:Cx) (h:Hp) (w:World) (a:Act) (N:Act->World->Prop) (Q:Exit->Act->World->Prop),Conc E c h w->Sub H h->(aj H k=none->h k=none)->(∀x∈o.op.operands,∀d,bq σ x=some d->SR c h w (a.eval x) d)->
  (∀val w' c',Conc E c' (bK h k (some o')) w'->eN c h w c' (bK h k (some o')) w'->SR c' (bK h k (some o')) w' val v->N (a.put o.dst val) w')->o.wp P a w N Q):St P o σ H v (oset H k o'):=
 λE c h w a N Q hC hs hf J D=>F E c h w a N Q hC hs (λe=>hf k e (by rw[ij,fh];simp)) J (by rw[bu.set hs]at D;exact D)
theorem nW{o:Oper}{a:Act}{val:Value}{N:Act->World->Prop}{Q:Exit->Act->World->Prop}(F:(execOp a.eval o).run P w=.ok (.value val) w')(D:N (a.put o.dst val) w'):o.wp P a w N Q:=by unfold Oper.wp;rw[F];exact D
theorem SR.unit(c:Cx)(h:Hp)(w:World):SR c h w undef (.eR []):=⟨[],rfl,.nil⟩
theorem RY{x z:Operand}{agg:Bool}{n b p:Nat}(hs:nI P ty=some (agg,n)){a:Act}(J:a.eval x=.pointer (some ⟨b,p,none⟩))(L:(a.eval z).cells.toList.length=n){D:World}(M:(storeCells ⟨b,p,none⟩ (a.eval z).cells.toList).run P w=.ok () D)
  {N:Act->World->Prop} {Q:Exit->Act->World->Prop} (F:N (a.put dst undef) D):Oper.wp P ⟨dst,.store ty x z,ty0,pos,af,g⟩ a w N Q:=by
 have:(execOp a.eval ⟨dst,.store ty x z,ty0,pos,af,g⟩).run P w=.ok .skip D:=by simp[execOp,J,Instr.storeAt,Instr.sureAddr,storeVar,(r6 hs w).2];simp_all
 unfold Oper.wp;rw[this];exact F
theorem anp{x z:Operand}{d d':DS}(hx:bq σ x=some d)(hz:bq σ z=some d')(J:Ms P H ty d d' K=some y):∃v H',K v H'=some y/\St P ⟨dst,.store ty x z,ty0,pos,af,g⟩ σ H v H':=by
 unfold Ms at J;split at J<;>try (cases J;done)
 ·rename_i agg n k i l hs hl;split at J<;>try (cases J;done)
  rename_i vt cells L;obtain⟨h1,h2⟩:=bE J;rw[au0,au0,ay6,ay6,au0,decide_eq_true_eq,decide_eq_true_eq]at h1;obtain⟨⟨Y,h0⟩,h1⟩:=h1;refine⟨_,_,h2,St.put λE c h w a N Q hC M _ O hN=>?_⟩;obtain⟨b,hm,ex⟩:=Aw (w:=w) M L (O x (by simp [au7]) _ hx)
  have hu:=wq (O z (by simp [au7]) _ hz) hl
  have a8:=hu.len;obtain⟨b',cs,Z,e2,e3⟩:=hC.obj k _ (M _ _ L);rw[ua h0]at e2;rw[hm]at Z;injection Z with Z;injection Z with Z;cases Z;have bx:=e3.len;obtain⟨r1,r2,r3⟩:=YY (P:=P) (p:=i) e2 (us:=(a.eval z).cells.toList) (by grind) (wT hu)
  have F:Bl c h k b:=⟨⟨_,M _ _ L⟩,by rw[hm];rfl⟩
  obtain⟨g1,g2⟩:=hC.put k (o':=.var vt (eD cells i l)) (c':=c) (h':=bK h k (some (.var vt (eD cells i l)))) (fh _ _ _) (λj hj=>⟨gP hj,rfl⟩) rfl (r3.mono λq e=>e▸F) (λq e=>.inl ⟨F.1,e⟩) (.inl Y) (s:=false) (λq=>by cases q) (λo1 e=>by rw[M _ _ L]at e;cases e;exact⟨⟨_,rfl⟩,rfl⟩) λbb=>⟨b,_,hm,by rw[ua h0];exact r2,by rw[List.toList_toArray];exact(e3.eD hu i).mono λ_ _=>CR.fM bb⟩
  exact RY hs ex (by omega) r1 (hN undef _ _ g1 g2 (SR.unit _ _ _))
 ·rename_i agg n k gn p l hs hl;split at J<;>try (cases J;done)
  ·rename_i a1 e t rows i j L;obtain⟨h1,h2⟩:=bE J;rw[au0,ay6,au0,decide_eq_true_eq,decide_eq_true_eq]at h1;obtain⟨aE,h1⟩:=h1;obtain⟨q,hq,h3⟩:=ay0.1 h2;split at h3<;>try (cases h3;done)
   rename_i q' bp;refine⟨_,_,h3,St.put λE c h w a N Q hC M _ O hN=>?_⟩;obtain⟨_,_,wd,Y,hi,b,cap,hm,ex⟩:=iO (w:=w) M L (O x (by simp [au7]) _ hx)
   injection id Y with an;simp[Prod.mk.injEq]at an;obtain⟨rfl,rfl,rfl⟩:=an;have hu:=wq (O z (by simp [au7]) _ hz) hl
   have a8:=hu.len;have az:=(ay9.1 hq).1;have e4:rows=rows.take i++q::rows.drop (i+1):=by rw[<-(ay9.1 hq).2,<-av6 az,ax4]
   have e5:rows.set i q'=rows.take i++q'::rows.drop (i+1):=by rw[List.set_eq_take_append_cons_drop,if_pos az]
   have a7:(rows.take i).length=i:=by simp;omega
   obtain⟨c',w1,r1,g1,g2⟩:=hC.RW (P:=P) (o':=.row a1 e t (rows.set i q')) (p:=i*wid t+j) (us:=(a.eval z).cells.toList) aE (M _ _ (jT L).1) Y rfl (by simp [bc]) hm (by omega) (wT hu) (by
     have:(i+1)*wid t<=rows.length*wid t:=az8 _ az;rw[aA0,aC4]at this;simp only[bc];omega) (λxs D=>by
    have D:au (CR c h w) xs (aQ t rows):=D;rw[e4,qp,aQ,<-aw9]at D;show au (CR c h w) _ (aQ t (rows.set i q'));rw[e5,qp,aQ,<-aw9];have b1:=D.len;have U:=(D.take (i*wid t+wid t)).take (i*wid t);have F:=(D.take (i*wid t+wid t)).drop (i*wid t);have hc:=D.drop (i*wid t+wid t);have el:(aQ t (rows.take i)++cA t q).length=i*wid t+wid t:=by rw[au5,ik,ja,a7]
    have ar:(aQ t (rows.take i)).length=i*wid t:=by rw[ik,a7]
    rw[aD2 el,aD2 ar]at U;rw[aD2 el,List.drop_left' ar]at F;rw[List.drop_left' el]at hc;have a6:=F.len;rw[ja]at a6;have ah:=U.len;rw[ar]at ah;have:=Q0 (us:=(a.eval z).cells.toList) (n:=i*wid t) (j:=j) (C:=xs.drop (i*wid t+wid t)) ah.symm (B:=(xs.take (i*wid t+wid t)).drop (i*wid t)) (by omega)
    rw[ax4,ax4]at this;rw[this];exact(U.app (Ad bp (F.eD hu j))).app hc)
   exact RY hs ex (by omega) r1 (hN undef _ _ g1 g2 (SR.unit _ _ _))
  ·rename_i a1 e t b0 rows last j L;obtain⟨h1,h2⟩:=bE J;obtain⟨h0,h3⟩:=bE h2;simp[au0,decide_eq_true_eq]at h1;rw[au0,ay6,ay6]at h0;obtain⟨aE,rfl⟩:=h0;refine⟨_,_,h3,St.put λE c h w a N Q hC M _ O hN=>?_⟩;obtain⟨_,_,wd,Y,hi,b,cap,hm,ex⟩:=iO (w:=w) M L (O x (by simp [au7]) _ hx)
   injection id Y with an;simp[Prod.mk.injEq]at an;obtain⟨rfl,rfl,rfl⟩:=an;have hu:=wq (O z (by simp [au7]) _ hz) hl
   have a8:=hu.len
   obtain⟨c',w1,r1,g1,g2⟩:=hC.RW (P:=P) (o':=.bF a1 e t false rows (last.take j++l++last.drop (j+l.length))) (p:=rows.length*wid t+j) (us:=(a.eval z).cells.toList) aE (M _ _ (jT L).1) Y rfl rfl hm (Nat.succ_pos _) (wT hu) (by show _<=(rows.length+1)*wid t;rw[aA0,aC4];omega) (λxs D=>by
    have D:au (CR c h w) xs (aQ t rows++last):=D;show au (CR c h w) _ (aQ t rows++eD last j l);have U:=D.take (rows.length*wid t);have F:=D.drop (rows.length*wid t);rw[aD2 (ik rows)]at U;rw[List.drop_left' (ik rows)]at F;have ah:=U.len;rw[ik]at ah;have a6:=F.len;have:=Q0 (us:=(a.eval z).cells.toList) (n:=rows.length*wid t) (j:=j) (C:=[]) ah.symm (B:=xs.drop (rows.length*wid t)) (by omega)
    rw[ax4,aw5,aw5]at this;rw[this];exact U.app (F.eD hu j))
   exact RY hs ex (by omega) r1 (hN undef _ _ g1 g2 (SR.unit _ _ _))
theorem TO{d:DS}{u:Value}(D:OH d=true)(hu:SR c h w u d):∃a,u=.slice a 0 0:=by
 unfold OH at D;split at D
 ·exact hu
 ·exact⟨none,hu⟩
 ·grind
theorem Uq(a:Option Addr):dZ (.slice a 0 0)=none:=by cases a<;>rfl
theorem aax{t:Ty}{d:DS}{u:Value}{more:List (den t)}(D:MW t d=some more)(hu:SR c h w u d):∃news,Holds w (wid t) u more.length news/\au (CR c h w) news (aQ t more):=by
 unfold MW at D;split at D<;>try (cases D;done)
 ·cases D;have hu:=hu;subst hu;exact⟨[],⟨by simp,_,_,rfl,.inl rfl⟩,.nil⟩
 ·exact R7 (uk rfl D hu)
theorem Z3{hs:List (Option Nat)}{o o':aR}{e D:TypeId}{n F m:Nat}{q:Option Nat}(h1:cX o=some (hs,e,n))(h2:cX o'=some (hs++[some m],D,F))(hm:m=bc o){g:Nat}(J:cD o g=some q):cD o' g=some q:=by grind[cD]
theorem acI{t:Ty}{l:List DC}{x:den t}(he:pI (mo Nx t l)=some x){vs:List Value}(F:au (CR c h w) vs l):au (CR c h w) vs (cA t x):=by
 obtain⟨J,e,h1⟩:=Fv (Q:=CR c h w) (Q':=CR c h w) (λt x d v hs D F=>by
  unfold Nx at D;split at D<;>try (cases D;done)
  split at D<;>try (cases D;done)
  rename_i e _;obtain⟨e⟩:=e;subst e;cases D;exact F) t (Fa he)
 grind
theorem aci{s x:Operand}{k M n b:Nat}{e:TypeId}(hS:fZ P ty=some (e,n,b))(hb:b<=1000)(a1:dw k=false){o o':aR}{hs:List (Option Nat)}{L:DS}(a6:bq σ s=some (.c (.ow k M .all)))(a8:bq σ x=some L)(U:rowAt H k M=some o)(D:cX o=some (hs,e,n))(F:cX o'=some (hs++[some (bc o)],e,n)){l:Nat}(hl:bc o'=bc o+l)(ar:bc o+l<=1000000000)
  (a7:∀(E:cP) c h w u,Conc E c h w->Sub H h->SR c h w u L->∃news,Holds w n u l news/\(∃q,au (CR c h w) news q)/\∀xs,au (CR c h w) xs (dT o)->au (CR c h w) (xs++news) (dT o')):St P ⟨dst,.call {callee:=.builtin .append,args:= #[s,x],argTypes:= #[ty,ty]},ty0,pos,af,g⟩ σ H (.c (.ow k (hs.length+1) .all)) (oset H k o'):=
 St.put λE c h w a N Q hC J _ Y hN=>by
  obtain⟨bp,e2,wd,bb,hm⟩:=iO (w:=w) J U (Y s (by simp [au7,Call.operands]) _ a6)
  obtain⟨news,h1,⟨q,h2⟩,Z⟩:=a7 E c h w _ hC J (Y x (by simp [au7,Call.operands]) _ a8)
  have hk:=J _ _ (jT U).1;obtain⟨hn,xs,aE,hv⟩:=(hC.obj k _ hk).row D;have O:∀b,dZ (c.m k)=some b->Bl c h k b:=λb q=>⟨⟨o,hk⟩,q⟩;refine TA hS hb aE h1 (wT h2) ar hm rfl λv' w' hx az ah an=>?_
  obtain⟨c',g1,g2,g3,_⟩:=hC.setRow (k:=k) F hn (hx.mono O) (λb q=>(ah b q).imp (O b) id) (s:=false) (λq=>by cases q) a1 (λo1 q=>by
   rw[hk]at q;cases q;unfold OL;rw[D];refine⟨_,F,.inl ⟨λg n q=>Z3 D F rfl q,?_⟩⟩;by_cases h0:l=0
   ·exact .inl ⟨by omega,an h0⟩
   ·exact .inr (by omega)) (xs:=xs++news) (hl▸az) (Z xs hv)
  rw[au5]at g3;exact hN v' w' c' g1 g2 g3
theorem am8{cp:Bool}{s x:Operand}{d d':DS}(ah:bq σ s=some d)(ar:bq σ x=some d')(O:wQ P H cp dst ty d d' K=some y):∃v H',K v H'=some y/\St P ⟨dst,.call {callee:=.builtin .append,args:= #[s,x],argTypes:= #[ty,ty]},ty0,pos,af,g⟩ σ H v H':=by
 unfold wQ at O;split at O<;>try (cases O;done)
 ·rename_i e n b k gn M;obtain⟨h1,h2⟩:=bE O;simp[decide_eq_true_eq]at h1;split at h2<;>try (cases h2;done)
  ·rename_i hs e' t rows ho;split at h2<;>try (cases h2;done)
   rename_i more a1;obtain⟨D,F⟩:=bE h2;simp[decide_eq_true_eq]at D;obtain⟨rfl,rfl⟩:=D;obtain⟨h5,J⟩:=il F;refine⟨_,_,J,aci M h1.1.2 h1.2 ah ar ho rfl rfl (l:=more.length) (by simp [bc]) h5 λE c h w u hC an hu=>?_⟩
   obtain⟨news,g1,g2⟩:=aax a1 hu;exact⟨news,g1,⟨_,g2⟩,λxs L=>by show au _ _ (aQ t (rows++more));rw[qp];exact L.app g2⟩
  ·rename_i hs e' t b' rows last q ho;split at h2<;>try (cases h2;done)
   rename_i x' bp;obtain⟨D,F⟩:=bE h2;simp[decide_eq_true_eq]at D;obtain⟨⟨rfl,rfl⟩,hq⟩:=D;obtain⟨h5,J⟩:=il F;refine⟨_,_,J,aci M h1.1.2 h1.2 ah ar ho rfl rfl (l:=1) (by cases b'<;>simp [bc]) (by cases b'<;>simp [bc]<;>omega) λE c h w u hC an hu=>?_⟩
   obtain⟨b,o,cap,rfl,_,_,hl⟩:=hu;have hg:CG c h w (Fz c.A w b o) (q.map adr):=λi u0 hz=>by rw[aI0]at hz;obtain⟨lc,e1,e2⟩:=Option.map_eq_some_iff.1 hz;subst e2;obtain⟨u,f1,f2⟩:=hl i lc e1;exact⟨u,f1,by cases lc<;>exact f2⟩
   obtain⟨news,g1,g2⟩:=hg.list;refine⟨news,⟨by rw[g1.len,au1,hq,aC4],_,_,rfl,.inr ⟨b,o,rfl,λi u hu=>(g2 i u hu).2⟩⟩,⟨_,g1⟩,λxs L=>?_⟩
   refine au.app ?_ g1;cases b' with
   |true=>exact L
   |false=>have L:au (CR c h w) xs (aQ t rows++last):=L;show au _ _ (aQ t (rows++[x']));rw[qp];have ha:=L.take (aQ t rows).length;have hb:=L.drop (aQ t rows).length;rw[aB2]at ha;rw[aC2]at hb;rw[<-ax4 (aQ t rows).length xs];exact ha.app (by simpa[aQ]using acI bp hb)
 ·rename_i e n b M bx;obtain⟨h1,h2⟩:=bE O;simp[decide_eq_true_eq]at h1;have a8:∀{a:Option Addr} {w:World},eB w e n (.slice a 0 0) 0 []:=λ{a w}=>.inl ⟨a,rfl,rfl,rfl⟩;have a6:∀{a:Option Addr} {w w':World},Ext (λb=>dZ (.slice a 0 0)=some b) w w'->gv w w':=λZ=>Z.mono λb q=>by rw[Uq]at q;cases q
  have a7:∀{a:Option Addr} {v:Value} {w:World},(∀b,dZ v=some b->dZ (.slice a 0 0)=some b\/w.heap.size<=b)->∀b,dZ v=some b->w.heap.size<=b:=λhb b q=>(hb b q).resolve_left λz=>by rw[Uq]at z;grind
  split at h2<;>try (cases h2;done)
  ·rename_i t more _ _;obtain⟨D,F⟩:=bE h2;obtain rfl:=eq_of_beq D;obtain⟨h5,J⟩:=il F;refine⟨_,_,J,λE c h w a N Q hC an _ Y hN=>?_⟩;rw[bu.self an]at hN;obtain⟨az,ez⟩:=TO h1.1 (Y s (by simp [au7,Call.operands]) _ ah)
   obtain⟨news,g1,g2⟩:=R7 (Y x (by simp [au7,Call.operands]) _ ar)
   refine TA M h1.2 a8 g1 (wT g2) (by omega) ez rfl λv' w' Z U aE bb=>?_
   rw[ax2]at U;obtain⟨c',f1,f2,f3⟩:=hC.frozen (a6 Z) U (a7 aE) g2;exact hN v' w' c' f1 f2 f3
  ·rename_i d t _ ht;split at h2<;>try (cases h2;done)
   rename_i more a1;obtain⟨D,F⟩:=bE h2;obtain rfl:=eq_of_beq D;obtain⟨h5,J⟩:=il F;obtain⟨h7,h8⟩:=bE J;refine⟨_,_,h8,St.put λE c h w a N Q hC an hf Y hN=>?_⟩;obtain⟨az,ez⟩:=TO h1.1 (Y s (by simp [au7,Call.operands]) _ ah)
   obtain⟨news,g1,g2⟩:=aax a1 (Y x (by simp [au7,Call.operands]) _ ar)
   obtain⟨_,_,_,_,_,_,_,_,hn⟩:=pf M;refine TA M h1.2 a8 g1 (wT g2) (by omega) ez rfl λv' w' Z U aE bb=>?_
   rw[ax2]at U;obtain⟨c',f1,f2,f3⟩:=hC.newRow (hf (o8 h7)) (rY h7) hn (a6 Z) U (a7 aE) g2;exact hN v' w' c' f1 f2 f3
end
section
variable {R:Type} {y:R} {P:Program} {ty:TypeId} {c:Cx} {h:Hp} {w w':World} {E:cP} {H H':ax} {σ:cG} {K:DS->ax->Option R} {dst:Option Tmp} {ty0:TypeId} {pos:String} {af:Array Edge} {g:Option (Nat×Bool)} {op:Op} {v:DS}
theorem anA{x:Operand}{Z Y:Option Operand}{d:DS}{b3 b2:Option DS}(a8:bq σ x=some d)(hl:ya σ Z=some b3)(hh:ya σ Y=some b2)(J:wS P H ty d b3 b2 K=some y):∃v H',K v H'=some y/\St P ⟨dst,.slice ty x Z Y none,ty0,pos,af,g⟩ σ H v H':=by
 have a6:∀z∈Z,z∈(Op.slice ty x Z Y none).operands:=λz D=>by have D:Z=some z:=D;subst D;simp [au7]
 have a1:∀z∈Y,z∈(Op.slice ty x Z Y none).operands:=λz D=>by have D:Y=some z:=D;subst D;simp [au7]
 have bb:x∈(Op.slice ty x Z Y none).operands:=by simp [au7]
 unfold wS at J;split at J<;>try (cases J;done)
 ·rename_i t rows e n b hs;split at J<;>try (cases J;done)
  rename_i l k bx bp;obtain⟨h1,h2⟩:=bE J;obtain rfl:=eq_of_beq h1;obtain⟨⟨L,h4,h5⟩,h6⟩:=il h2;have M:k.toNat<=rows.length:=by omega
  exact⟨_,_,h6,St.val λE c h w a hC O F=>arH hs (F x bb _ a8) (vq hl bx L λz D=>F z (a6 z D)) (vq hh bp (by omega) λz D=>F z (a1 z D)) (by omega) M⟩
 ·rename_i s;split at J<;>try (cases J;done)
  rename_i l k bx bp;obtain⟨h1,h2⟩:=bE J;obtain⟨⟨L,h4,h5⟩,h6⟩:=il h2;have M:k.toNat<=List.length s:=by omega
  exact⟨_,_,h6,St.val λE c h w a hC O F=>⟨_,ao8 h1 (show a x=_ from(F x bb _ a8).2.symm) (vq hl bx L λz D=>F z (a6 z D)) (vq hh bp (by omega) λz D=>F z (a1 z D)) (by omega) M,rfl,rfl⟩⟩
 ·rename_i k gn e n b hs;split at J<;>try (cases J;done)
  ·rename_i aE e' t l kd i ho;obtain⟨h1,h2⟩:=bE J;obtain⟨L,h4⟩:=il h2;obtain⟨i,rfl⟩:∃j:Nat,i=j:=⟨aB1 i,(aA7 L.1).symm⟩;have h5:=aF2.1 L.2.1;refine⟨_,_,h4,St.val λE c h w a hC O F=>?_⟩;obtain⟨b5,e2,wd,ah,hm⟩:=iO (w:=w) O ho (F x bb _ a8);obtain⟨_,xs,b0,_⟩:=(hC.obj k _ (O _ _ (jT ho).1)).row ah;have hw:=eq_of_beq h1;injection id ah with az;simp[Prod.mk.injEq]at az;rcases b0 with⟨_,_,h0,_⟩|⟨U,cap,cur,e1,_,M,_⟩
   ·have:=L.2.2;simp only[bc]at h0;omega
   ·have ar:=vq hl (l:=i) (d:=0) rfl (by simp) λz D=>F z (a6 z D)
    have an:=vq hh (l:=l.length) (d:=l.length) rfl (by simp) λz D=>F z (a1 z D)
    simp[av0]at ar an;have M:l.length<=cap+1:=M;refine⟨_,Tu hs (a:=a) (ad:=some ⟨U,0,none⟩) (len:=l.length) (cap:=cap+1) (by rw[show a x=c.m k from hm];exact e1) ar an h5 M,Ay (w:=w) O ho rfl λhs e b6 b1=>?_⟩
    rw[ah]at b1;simp[Option.some.injEq,Prod.mk.injEq]at b1;refine⟨h5,L.2.2,U,_,e1,?_⟩;rw[<-b1.2.2,<-az.2.2,hw,av0];split<;>simp [add_plain,bc]
  ·rename_i aE e' t l kd i ho;obtain⟨h1,h2⟩:=bE J;rw[au0]at h1;obtain⟨L,h4⟩:=il h2;obtain⟨i,rfl⟩:∃j:Nat,i=j:=⟨aB1 i,(aA7 L.1).symm⟩;have h5:=aF2.1 L.2.1;refine⟨_,_,h4,St.put λE c h w a N Q hC O _ F hN=>?_⟩;obtain⟨b5,e2,wd,ah,hm⟩:=iO (w:=w) O ho (F x bb _ a8);have hk:=O _ _ (jT ho).1;obtain⟨hn,xs,b0,hv⟩:=(hC.obj k _ hk).row ah;injection id ah with az;simp[Prod.mk.injEq]at az;obtain⟨rfl,rfl,rfl⟩:=az;rcases b0 with⟨_,_,h0,_⟩|⟨U,cap,cur,e1,h6,M,h8,h9,b4⟩
   ·have:=L.2.2;simp only[bc]at h0;omega
   have M:l.length<=cap+1:=M;have ar:=vq hl (l:=0) (d:=0) rfl (by simp) λz D=>F z (a6 z D)
   have an:=vq hh (l:=i) (d:=l.length) rfl (by simp) λz D=>F z (a1 z D)
   simp[av0]at ar an;have hB:Bl c h k U:=⟨⟨_,hk⟩,by rw[e1];rfl⟩
   have a7:(l.take i).length=i:=by rw[aw7];omega
   have hmul:i*wid t<=l.length*wid t:=az8 _ h5
   obtain⟨c',f1,f2,f3,_⟩:=hC.setRow (k:=k) (o':=.row (av5 (aE.length+1) none) e' t (l.take i)) (w':=w) (v':=.slice (some ⟨U,0,none⟩) i (cap+1)) rfl hn (Ext.refl _ _) (λb q=>.inl (uj q▸hB)) (s:=true) (λ_=>by
     cases hE:E.H k with
     |none=>rfl
     |some o=>have:=(hC.ga k o hE).1;have h1:=h1.2;simp[az0,aD3,Nat.ble_eq]at h1;omega) (by
     have h1:=h1.2;simp[az0,aD3,Nat.ble_eq]at h1;exact acx (by omega)) (λo q=>by
     rw[hk]at q;cases q;refine⟨_,rfl,.inr ⟨rfl,λg m q=>?_⟩⟩;have:=(ay9.1 (show(aE++[some l.length])[g]? =some m from q)).1
     rw[au5]at this;show(av5 (aE.length+1) none++[some (l.take i).length])[g]? =some none;have hg:g<aE.length+1:=this;rw[aD9 (by grind),List.getElem?_replicate,if_pos hg]) (xs:=xs.take (i*wid t)) (.inr ⟨U,cap,cur,by simp [bc,a7],h6,by simp[bc,a7];omega,h8,h9,by
     rw[<-b4,List.take_take];show _=List.take (min (i*wid t) (l.length*wid t)) _;rw[aF3 hmul];show List.take ((l.take i).length*wid t) _=_;rw[a7]⟩) (by
    have hv:au (CR c h w) xs (aQ t l):=hv;have:=hv.take (i*wid t);have e4:aQ t l=aQ t (l.take i)++aQ t (l.drop i):=by rw[<-qp,ax4]
    rw[e4,aD2 (by rw[ik,a7])]at this
    exact this)
   refine nW (Tu hs (a:=a.eval) (ad:=some ⟨U,0,none⟩) (len:=l.length) (cap:=cap+1) (by rw[show a.eval x=c.m k from hm];exact e1) ar an (au2 _) (by omega)) (hN _ _ c' f1 f2 ?_)
   simp[Int.toNat_zero,av0,Nat.zero_mul,az7,add_plain,Nat.add_zero,Nat.sub_zero,Nat.succ_ne_zero,if_false];rw[aG9]at f3;exact f3
theorem Qg{t:Ty}{q:den t}{us:List Value}(hu:au (CR c h w) us (cA t q)):∀m,au (CR c h w) (av5 m us).flatten (aQ t (av5 m q))
 |0=>.nil
 |m+1=>by rw[aH8];exact hu.app (Qg hu m)
theorem QJ{z:Array Value}(F:0<z.size):∀m:Nat,(aA2 (m*z.size)).map (λi=>z[i %z.size]!)=(av5 m z.toList).flatten
 |0=>by simp
 |m+1=>by
  rw[aH8,aE9,<-QJ F m,aA0,aB6,List.range_add,aw1,List.map_map];congr 1
  ·apply List.ext_getElem (by simp)
   intro i h1 h2;have D:i<z.size:=by grind
   simp [Nat.mod_eq_of_lt D,D]
  ·simp
theorem Z0{e:TypeId}{t:Ty}{q:den t}(D:MM P e t=some q){inf:TypeInfo}{z:Value}(F:P.info? e=some inf)(L:inf.zero=some z):au (CR c h w) z.cells.toList (cA t q):=by
 unfold MM vk at D;rw[F]at D;simp[L]at D;split at D<;>try (cases D;done)
 rename_i J _;exact Ad D (As J)
theorem aoJ{x:Operand}{d:DS}(bx:bq σ x=some d)(F:MI P H ty d K=some y):∃v H',K v H'=some y/\St P ⟨dst,.call {callee:=.builtin .clear,args:= #[x],argTypes:= #[ty]},ty0,pos,af,g⟩ σ H v H':=by
 unfold MI at F;split at F<;>try (cases F;done)
 rename_i e n b k gn i hS;split at F<;>try (cases F;done)
 rename_i an U t l ho;split at F<;>try (cases F;done)
 rename_i q hq;obtain⟨h1,h2⟩:=bE F;rw[au0,ay6]at h1;obtain⟨a8,h1⟩:=h1;obtain rfl:=eq_of_beq h1;refine⟨_,_,h2,St.put λE c h w a N Q hC ar _ a6 Y=>?_⟩;obtain⟨b6,e2,wd,ah,L,h4,b',cap,hm,ex⟩:=iO (w:=w) ar ho (a6 x (by simp [au7,Call.operands]) _ bx)
 injection id ah with aE;simp[Prod.mk.injEq]at aE;obtain⟨rfl,rfl,rfl⟩:=aE;obtain⟨inf,z,hu,az,hz,b7,b4,b8,b5⟩:=pf hS;have b1:=Z0 (c:=c) (h:=h) (w:=w) hq az hz;have hlen:bc (.row an U t (l.take i++av5 (l.length-i) q))=bc (.row an U t l):=by have L:i<=l.length:=L;simp [bc];omega
 have b3:∀w:World,(zeroValue e).run P w=.ok z w:=λw=>by simp [Go.zeroValue,typeInfo,az,hz]
 have O:=Qg b1 (l.length-i);have e3:(Builtin.zeroCells z.cells (l.length-i)).toList=(av5 (l.length-i) z.cells.toList).flatten:=by rw[<-QJ (by omega)];simp [Builtin.zeroCells]
 rw[<-e3]at O;have a1:=O.len;rw[ik,aG9]at a1;have L:i<=l.length:=L;have hmul:i*wid t+(l.length-i)*wid t=l.length*wid t:=by rw[<-aA0];congr 1;omega
 obtain⟨c',w1,J,g1,g2⟩:=hC.RW (P:=P) (o':=.row an U t (l.take i++av5 (l.length-i) q)) (p:=i*wid t) (us:=(Builtin.zeroCells z.cells (l.length-i)).toList) a8 (ar _ _ (jT ho).1) ah rfl hlen hm h4 (wT O) (by rw[a1,hmul];exact at9 _) (λxs M=>by
  have M:au (CR c h w) xs (aQ t l):=M;show au _ _ (aQ t (l.take i++av5 (l.length-i) q));have bb:(l.take i).length=i:=by rw[aw7];omega
  have:=M.take (i*wid t);have e4:aQ t l=aQ t (l.take i)++aQ t (l.drop i):=by rw[<-qp,ax4]
  rw[e4,aD2 (by rw[ik,bb])]at this
  rw[qp];have b0:=M.len;rw[ik]at b0;unfold eD;rw[az3 (by omega),aw5]
  exact this.app O)
 have Y:=Y (.tuple #[]) _ _ g1 g2 (SR.unit _ _ _);obtain⟨_,xs,a7,_⟩:=(hC.obj k _ (ar _ _ (jT ho).1)).row ah
 have qX:l.length<=cap:=by
  rcases a7 with⟨_,D,_⟩|⟨b2,cp,cur,D,_,h7,_⟩
  ·rw[hm]at D;injection D with _ D;simp only[bc]at D h4;omega
  ·rw[hm]at D;injection D with _ D e2;simp[bc]at h7;omega
 refine nW (val:=.tuple #[]) (w':=w1) ?_ Y;have ex:a.eval x=.slice (some ⟨b',if cap=i then 0 else i*wid t,none⟩) (l.length-i) (cap-i):=ex
 cases Z:l.length-i with
 |zero=>
  rw[Z]at J ex;have e0:(Builtin.zeroCells z.cells 0).toList=[]:=by simp [Builtin.zeroCells]
  rw[e0]at J;have bp:w1=w:=by simp [storeCells]at J;exact J.symm
  subst bp;simp [execOp,resolve,invoke,builtin,Builtin.clear_,ex,run_underlying hu]
 |succ m=>
  rw[if_neg (by omega),Z]at ex
  rw[Z]at J;simp [execOp,resolve,invoke,builtin,Builtin.clear_,ex,run_underlying hu,b3,J]
end
section
variable {R:Type} {y:R} {P:Program} {ty:TypeId} {c:Cx} {h:Hp} {w w':World} {E:cP} {H H':ax} {σ:cG} {K:DS->ax->Option R} {dst:Option Tmp} {ty0:TypeId} {pos:String} {af:Array Edge} {g:Option (Nat×Bool)} {op:Op} {v:DS}
theorem arY{u:Value}{x:Sum DC (List DC)}(hu:UR c h w u x):SR c h w u (VV x):=by cases x<;>exact hu
theorem ams{l:List (Nat×Nat)}{z:List Value}(hs:VW P ty=some (l,z)):∃D,P.underlying ty=some (.struct D)/\vk P ty=some z/\∀w,(D.mapM λf=>do pure (f.offset,<-sizeOf f.type):Sem (Array (Nat×Nat))).run P w=.ok l.toArray w:=by
 unfold VW at hs;split at hs<;>try (cases hs;done)
 rename_i D O hu L;split at hs<;>try (cases hs;done)
 rename_i F;injection hs with hs;injection hs with h1 h2;subst h1;subst h2;refine⟨D,hu,L,λw=>?_⟩
 have key:∀fl:List Field,(fl.all λf=>(P.info? f.type).isSome)=true->(fl.mapM λf=>do pure (f.offset,<-sizeOf f.type):Sem (List (Nat×Nat))).run P w=.ok (fl.map λf=>(f.offset,((P.info? f.type).map (·.size)).getD 0)) w:=by
  intro fl
  induction fl with
  |nil=>simp
  |cons f t N=>
   intro hf;rw[ay4,au0]at hf;obtain⟨i,J⟩:=aB0.1 hf.1;have M:(sizeOf f.type).run P w=.ok i.size w:=by simp [Go.sizeOf,typeInfo,J]
   simp_all
 rw[Array.mapM_eq_mapM_toList];simp only[map_eq_pure_bind,ax3,key D.toList F,ax9,ay1]
theorem SI{a:Operand->Value}:∀{xs:List Operand} {l:List DC},Gc σ xs=some l->(∀x∈xs,∀d,bq σ x=some d->SR c h w (a x) d)->au (CR c h w) (xs.map a) l
 |[],l,e,_=>by cases e;exact .nil
 |x::r,l,e,D=>by
  unfold Gc at e;split at e<;>try (cases e;done)
  rename_i J F;cases e;exact .cons (D x aw4 _ J) (SI F λz L=>D z (ax5 _ L))
theorem acB:∀{l:List DC} {q:List LC} {us:List Value},uw l=some q->au (CR c h w) us l->∀(i:Nat) u x,us[i]? =some u->q[i]? =some x->LCR c.A w u x
 |[],q,_,e,.nil=>by intro i u x hu;grind
 |O::r,q,M::us,e,.cons h1 L=>by
  unfold uw at e;split at e<;>try (cases e;done)
  rename_i a N D J;cases e;intro i u x hu F;cases i with
  |succ i=>exact acB J L i u x hu F
  |zero=>
   injection hu with hu;injection F with F;subst hu;subst F;unfold adD at D;split at D<;>try (cases D;done)
   ·split at D<;>try (cases D;done)
    cases D;exact h1
   ·cases D;exact⟨rfl,(show M=_ from h1).symm⟩
   ·cases D;exact h1
theorem Tk:∀{l:List DC} {q:List LC},uw l=some q->q.length=l.length
 |[],q,e=>by cases e;rfl
 |x::r,q,e=>by
  unfold uw at e;split at e<;>try (cases e;done)
  rename_i D;cases e;simp [Tk D]
theorem anH{x:Operand}{d:DS}{k:Tmp}(Y:bq σ x=some d)(D:Mw P H k ty d K=some y):∃v H',K v H'=some y/\St P ⟨some k,.range ty x,ty0,pos,af,g⟩ σ H v H':=by
 unfold Mw at D;split at D<;>try (cases D;done)
 rename_i t;obtain⟨h1,h2⟩:=bE D;rw[au0]at h1;obtain⟨h1,hs⟩:=h1;refine⟨_,_,h2,St.put λE c h w a N Q hC ah hf U M=>?_⟩;have L:Value.string ⟨t.toArray⟩=a.eval x:=(U x (by simp [au7]) _ Y).2
 have O:gv w (w.alloc (.stringIter ⟨t.toArray⟩ 0)):=gv.qv ((Below.refl _ _).alloc (at9 _) _);have e:(⟨bK c.m k (.pointer (some ⟨w.heap.size,0,none⟩)),c.A⟩:Cx).m k=.pointer (some ⟨w.heap.size,0,none⟩):=fh _ _ _;have hk:=hf (o8 h1);obtain⟨g1,g2⟩:=hC.put k (o':=.var iQ [.v .str t,.v (.int .i64) 0]) (c':=⟨bK c.m k (.pointer (some ⟨w.heap.size,0,none⟩)),c.A⟩) (h':=bK h k (some (.var iQ [.v .str t,.v (.int .i64) 0]))) (fh _ _ _) (T4 c h k _ _) rfl (O.mono λ_=>False.elim) (s:=false) (by rw[e];intro b F;injection F with F;exact .inr (Nat.le_of_eq F)) (.inl (rY h1)) (λq=>by cases q) (λo J=>by rw[hk]at J;cases J) λZ=>⟨w.heap.size,#[.string ⟨t.toArray⟩,.int .i64 0],e,heap_alloc_new w _,.cons ⟨rfl,rfl⟩ (.cons ⟨rfl,rfl⟩ .nil)⟩
 refine nW (val:=.pointer (some ⟨w.heap.size,0,none⟩)) (w':=w.alloc (.stringIter ⟨t.toArray⟩ 0)) ?_ (M _ _ _ g1 g2 ⟨rfl,_,fh _ _ _,⟨_,_,rfl⟩,_,e,rfl⟩);simp[execOp,<-L,run_range_string w ty _ (Ae hs)];rfl
theorem apC{x:Operand}{d:DS}(hx:bq σ x=some d)(D:MU H d K=some y):∃v H',K v H'=some y/\St P ⟨dst,.next x true,ty0,pos,af,g⟩ σ H v H':=by
 unfold MU at D;split at D<;>try (cases D;done)
 rename_i k;split at D<;>try (cases D;done)
 rename_i vt t n U
 replace D:=bE D
 obtain⟨h0,D⟩:=D;rw[au0,ay6]at h0;obtain⟨h0,a8⟩:=h0;simp_all
 have key:∀{E c h w u},Conc E c h w->Sub H h->SR c h w u (.c (.ptr k 0))->∃b,c.m k=.pointer (some ⟨b,0,none⟩)/\u=.pointer (some ⟨b,0,none⟩)/\w.heap[b]? =some (.stringIter ⟨t.toArray⟩ n.toNat):=by
  intro E c h w u hC F hu;obtain⟨b,hm,e⟩:=Aw (w:=w) F U hu;obtain⟨b',cs,J,e2,M⟩:=hC.obj k _ (F _ _ U);rw[hm]at J;injection J with J;injection J with J;cases J;refine⟨b,hm,e,?_⟩;obtain⟨l,rfl⟩:∃l:List Value,cs=l.toArray:=⟨cs.toList,by simp⟩
  cases M with
  |cons a M=>cases M with
   |cons Y M=>cases M;have a:=a.2;have Y:=Y.2;subst a;subst Y;exact e2
 cases hc:decide (n<t.length)with
 |false=>
  rw[hc]at D;refine⟨_,_,D,St.val λE c h w a hC F a7=>?_⟩;obtain⟨b,hm,e,O⟩:=key hC F (a7 x (by simp [au7]) _ hx)
  have ah:¬n.toNat<(⟨t.toArray⟩:ByteArray).size:=by
   have h1:∀n (m:Nat),¬n<(m:Int)->¬n.toNat<m:=λn m h=>by omega
   exact h1 n _ (of_decide_eq_false hc)
  exact⟨_,by simp[execOp,e,Lib.run_next_end_at w b _ _ _ O ah,ay1],[.bool false],rfl,.cons rfl .nil⟩
 |true=>
  rw[hc]at D;obtain⟨b,L,D⟩:=ay0.1 D;obtain⟨a1,D⟩:=il D;unfold ag at L;split at L<;>try (cases L;done)
  rename_i ar;obtain⟨ah,a6⟩:=ay9.1 L;refine⟨_,_,D,St.put λE c h w a N Q hC F _ hr hN=>?_⟩;obtain⟨q,hm,ex,O⟩:=key hC F (hr x (by simp [au7]) _ hx)
  have hq:Bl c h k q:=⟨⟨_,F _ _ U⟩,by rw[hm];rfl⟩
  have aE:=ah;have an:(⟨t.toArray⟩:ByteArray)[n.toNat]'aE=b:=a6;have az:=Lib.run_next_ascii_at (P:=P) w q ⟨t.toArray⟩ n.toNat ty0 O aE (an▸a1);rw[an,aA7 ar]at az;have en:(n+1).toNat=n.toNat+1:=(λ(n:Int) h=>(by omega)) n ar
  obtain⟨g1,g2⟩:=hC.put k (o':=.var iQ [.v .str t,.v (.int .i64) (n+1)]) (c':=c) (h':=bK h k (some (.var iQ [.v .str t,.v (.int .i64) (n+1)]))) (w':=w.iterAt q ⟨t.toArray⟩ (n.toNat+1)) (fh _ _ _) (λj Z=>⟨gP Z,rfl⟩) rfl ⟨rfl,rfl,rfl,by simp [World.iterAt],λj h1 h2=>by
    have Z:q≠j:=λe=>h2 (e▸hq);simp [World.iterAt,Z]⟩ (λb L=>.inl ⟨hq.1,L⟩) (.inl a8) (s:=false) (λq=>by cases q) (λo1 e=>by
   rw[F _ _ U]at e;cases e;exact⟨⟨_,rfl⟩,rfl⟩) λbb=>⟨q,#[.string ⟨t.toArray⟩,.int .i64 (n+1)],hm,by show _=some (Obj.stringIter ⟨t.toArray⟩ (n+1).toNat);rw[en];exact Lib.iterAt_heap w q _ _ _ O,.cons ⟨rfl,rfl⟩ (.cons ⟨rfl,rfl⟩ .nil)⟩
  refine nW (val:=.tuple #[.bool true,.int .i64 n,.int .i32 b.toNat]) (w':=w.iterAt q ⟨t.toArray⟩ (n.toNat+1)) ?_ (hN _ _ _ g1 g2 ⟨[.bool true,.int .i64 n,.int .i32 b.toNat],rfl,.cons rfl (.cons ⟨rfl,rfl⟩ (.cons ⟨rfl,rfl⟩ .nil))⟩);simp[execOp,ex,az,ay1]
theorem ar8{s:aF}{ow li:Bool}(D:xV P s ow li dst op K=some y):∃v H',K v H'=some y/\St P ⟨dst,op,ty0,pos,af,g⟩ s.sl s.hp v H':=by
 unfold xV at D;split at D<;>try (cases D;done)
 ·obtain⟨v,h1,h2⟩:=ef D;exact⟨v,_,h2,St.val λE c h w a _ _ F=>⟨_,rfl,F _ (by simp [au7]) _ h1⟩⟩
 ·obtain⟨v,h1,h2⟩:=ef D;exact⟨v,_,h2,St.val λE c h w a _ _ F=>⟨_,rfl,F _ (by simp [au7]) _ h1⟩⟩
 ·obtain⟨v,h1,h2⟩:=ef D;obtain⟨u,J,L⟩:=apI h2;exact⟨u,_,J,st1 h1 L (by simp [au7]) λa w z e=>by simp[execOp,ax3,e,ax9,ay1]⟩
 ·obtain⟨v,h1,h2⟩:=ef D;obtain⟨u,J,L⟩:=ajS h2;exact⟨u,_,J,st1 h1 L (by simp [au7]) λa w z e=>by simp[execOp,ax3,e,ax9,ay1]⟩
 ·obtain⟨v,h1,h2⟩:=ef D;obtain⟨v',ah,h2⟩:=ef h2;obtain⟨u,J,L⟩:=ajR h2;exact⟨u,_,J,st2 h1 ah L (by simp [au7]) (by simp [au7]) λa w z e=>by simp[execOp,ax3,e,ax9,ay1]⟩
 ·obtain⟨v,h1,h2⟩:=ef D;obtain⟨v',ah,h2⟩:=ef h2;obtain⟨u,J,L⟩:=arI h2;refine⟨u,_,J,St.val λE c h w a _ M F=>?_⟩;obtain⟨z,U,O,e3⟩:=L _ _ ⟨c,h,w,M,F _ (by simp [au7]) _ h1,F _ (by simp [au7]) _ ah⟩
  exact⟨z,by simp[execOp,ax3,U,O,ax9,ay1],e3 c h w⟩
 ·obtain⟨v,h1,h2⟩:=ef D;unfold unD at h2;split at h2<;>try (cases h2;done)
  ·refine⟨_,_,h2,St.val λE c h w a _ M F=>?_⟩;have e:_=a _:=(F _ (by simp [au7]) _ h1).2
   exact⟨_,by simp [execOp,<-e,Op.unary],rfl,rfl⟩
  ·refine⟨_,_,h2,St.val λE c h w a _ M F=>?_⟩;have e:a _=_:=F _ (by simp [au7]) _ h1
   exact⟨_,by simp [execOp,e,Op.unary],rfl⟩
  ·obtain⟨J,L⟩:=il h2;refine⟨_,_,L,St.val λE c h w a _ M F=>?_⟩;have e:_=a _:=(F _ (by simp [au7]) _ h1).2
   exact⟨_,by simp only[execOp,<-e,Op.unary,Op.intArith,RX J];rfl,rfl,rfl⟩
  ·refine⟨_,_,h2,St.val λE c h w a _ M F=>?_⟩;have e:_=a _:=(F _ (by simp [au7]) _ h1).2
   exact⟨_,by simp only[execOp,<-e,Op.unary,intBits_xor];rfl,rfl,rfl⟩
 ·obtain⟨v,h1,h2⟩:=ef D;unfold adi at h2;split at h2<;>try (cases h2;done)
  ·split at h2<;>try (cases h2;done)
   rename_i k' hk;obtain⟨J,L⟩:=bE h2;obtain⟨d,cw⟩:=aB0.1 J;unfold adG at hk;split at hk<;>try (cases hk;done)
   rename_i D;cases hk;refine⟨_,_,L,St.val λE c h w a _ M F=>?_⟩;have e:_=a _:=(F _ (by simp [au7]) _ h1).2
   refine⟨_,?_,rfl,rfl⟩;simp[execOp,<-e,convert,ax3,run_underlying cw,run_underlying D,ax9];simp [Conv.intToInt]
  ·obtain⟨J,L⟩:=bE h2;rw[au0]at J;refine⟨_,_,L,St.val λE c h w a _ M F=>?_⟩;have e:_=a _:=(F _ (by simp [au7]) _ h1).2
   refine⟨_,?_,rfl,rfl⟩;simp[execOp,<-e,convert,ax3,run_underlying (Ae J.1),run_underlying (Ae J.2),ax9,ay1]
 ·obtain⟨v,h1,h2⟩:=ef D;split at h2<;>try (cases h2;done)
  obtain⟨J,L⟩:=bE h2;refine⟨_,_,L,St.val λE c h w a _ M F=>?_⟩;have hv:=F _ (by simp [au7]) _ h1
  obtain⟨ad,e⟩:=abD M J hv;exact⟨_,by simp [execOp,e],e▸hv⟩
 ·obtain⟨v,h1,h2⟩:=ef D;split at h2<;>try (cases h2;done)
  rename_i off n agg l hf;obtain⟨J,L⟩:=bE h2;rw[au0,decide_eq_true_eq]at J;obtain⟨fs,d,hu,bp,h5,h6,h7⟩:=acE hf;refine⟨_,_,L,St.val λE c h w a _ M F=>?_⟩;obtain⟨vs,e,hv⟩:=F _ (by simp [au7]) _ h1
  refine⟨_,?_,Z5 J.1 J.2 hv⟩;have Z:=hv.len;cases agg with
  |true=>simp only[execOp,e,Instr.field,ax3,run_underlying hu,ax9,bp,asAgg,ay1,part,(r6 h6 w).1,if_true,(r6 h6 w).2,h5];simp [List.take_drop,Nat.add_sub_cancel_left]
  |false=>
   have h8:n=1:=by simpa using J.1
   subst h8;have ca:off<vs.length:=by omega
   simp[execOp,e,Instr.field,ax3,run_underlying hu,ax9,bp,asAgg,ay1,part,(r6 h6 w).1,h5];simp [ca,List.head?_take,List.head?_drop]
 ·obtain⟨v,h1,h2⟩:=ef D;split at h2<;>try (cases h2;done)
  split at h2<;>try (cases h2;done)
  rename_i u hu;refine⟨_,_,h2,St.val λE c h w a _ M F=>?_⟩;obtain⟨vs,e,hv⟩:=F _ (by simp [au7]) _ h1
  obtain⟨z,U,O⟩:=hv.get hu;exact⟨z,by simp [execOp,e,Instr.extract,U],arY O⟩
 ·rename_i ty ps;split at D<;>try (cases D;done)
  rename_i l pl z Z cx;split at D<;>try (cases D;done)
  rename_i zs ar;split at D<;>try (cases D;done)
  rename_i r hr;obtain⟨fs,hu,hz,cj⟩:=ams cx;refine⟨_,_,D,St.val λE c h w a _ M F=>?_⟩;obtain⟨zv,a1,a6,_⟩:=Tz hz w;obtain⟨qs,q1,q2⟩:=abW (LK (a:=a) Z λp hp=>F p.2 (by simp [au7];exact⟨p.1,by simpa using hp⟩)) hr
  obtain⟨b5,f1,f2⟩:=SB q1 (cells:=zv.cells) (by rw[a1];exact As ar) q2
  refine⟨.agg b5,?_,_,by rw[aH0],f2⟩
  have hm:(ps.map λ(i,x)=>(i,a x)).toList=ps.toList.map λp=>(p.1,a p.2):=by simp
  have hg:(λi:Nat=>(pl.toArray[i]? :Option (Nat×Nat)))=λi=>pl[i]? :=by funext i;simp
  simp only[execOp,Instr.build,ax3,a6,ax9,run_underlying hu,cj,hm,hg,f1];simp [Result.andThen]
 ·obtain⟨v,h1,h2⟩:=ef D;split at h2<;>try (cases h2;done)
  exact anA h1 (by assumption) (by assumption) h2
 ·rename_i ty x0 x1 x2;obtain⟨v,h1,k0⟩:=ef D;obtain⟨v1,k1,k3⟩:=ef k0;obtain⟨v2,k2,h2⟩:=ef k3;split at h2<;>try (cases h2;done)
  obtain⟨J,L⟩:=bE h2;rw[au0]at J;obtain⟨h5,h6⟩:=il L;obtain⟨e,n,b,hs⟩:=TF J.1;obtain⟨inf,z,hu,an,_,az,_⟩:=pf hs;refine⟨_,_,h6,St.val λE c h w a _ M F=>?_⟩;have U:=int_eq (F x1 (by simp [au7]) _ k1)
  have O:=int_eq (F x2 (by simp [au7]) _ k2)
  have hv:=F x0 (by simp [au7]) _ h1
  have c3:∃ad len cap,a x0=.slice ad len cap:=by
   have h7:=J.2;split at h7<;>try (cases h7;done)
   ·obtain⟨_,_,_,e,_⟩:=hv;exact⟨_,_,_,e.symm⟩
   ·exact⟨_,_,_,hv⟩
   ·obtain⟨_,e⟩:=hv;exact⟨_,_,_,e⟩
  obtain⟨ad,len,cap,e3⟩:=c3;have cp:(sizeOf e).run P w=.ok n w:=by simp [Go.sizeOf,typeInfo,an,az]
  have hb:∀(kd:IntKind) (q:Nat) (cd:BoundsCode),(Instr.sliceBound (.int kd 0) q cd).run P w=.ok 0 w:=λkd q cd=>by simp [Instr.sliceBound,asIntOf]
  rw[h5.1]at U;rw[h5.2]at O;exact⟨.slice ad 0 0,by simp[execOp,Instr.sliceAt,ax3,run_underlying hu,ax9,e3,Instr.slice,Instr.sliceBounds,aD1,az7,ay1,cp,if_true,U,O,hb],ad,rfl⟩
 ·obtain⟨v,h1,h2⟩:=ef D;obtain⟨v',ah,h2⟩:=ef h2;obtain⟨u,J,L⟩:=aoi h2;exact⟨u,_,J,st2 h1 ah L (by simp [au7]) (by simp [au7]) λa w z e=>by simp[execOp,ax3,e,ax9,ay1]⟩
 ·rename_i x0 x1 x2;obtain⟨v,h1,h2⟩:=ef D;obtain⟨v1,k1,J⟩:=ef h2;obtain⟨v2,k2,L⟩:=ef J
  have key:∀{b:Bool},(∀c h w u,SR c h w u v->u=.bool b)->K (if b then v1 else v2) s.hp=some y->∃v H',K v H'=some y/\St P ⟨dst,.pick x0 x1 x2,ty0,pos,af,g⟩ s.sl s.hp v H':=λ{b} hb hk=>
   ⟨_,_,hk,St.val λE c h w a _ M F=>⟨if b then a x1 else a x2,by simp [execOp,hb c h w _ (F _ (by simp [au7]) _ h1),asBool],by
    split
    ·exact F _ (by simp [au7]) _ k1
    ·exact F _ (by simp [au7]) _ k2⟩⟩
  split at L<;>try (cases L;done)
  ·split at L
   ·exact key (b:=true) (λ_ _ _ _ e=>e) L
   ·exact key (b:=false) (λ_ _ _ _ e=>e) L
  ·rename_i b;refine key (b:=b) (λ_ _ _ _ e=>e.2.symm) ?_;cases b<;>exact L
 ·obtain⟨v,h1,h2⟩:=ef D;split at h2<;>try (cases h2;done)
  rename_i u hu hn;unfold aar at hn;split at hn<;>try (cases hn;done)
  rename_i dd cg b3;refine⟨_,_,h2,St.val λE c h w a _ M F=>⟨_,?_,rfl,rfl⟩⟩;have e:=FQ (F _ (by simp [au7]) _ h1) hu
  simp only[execOp,e,Instr.makeInterface,ax3,run_underlying b3,ax9];cases dd<;>first|rfl|exact(cg _ b3).elim
 ·rename_i f fs cs;split at D<;>try (cases D;done)
  rename_i A B hA hB;refine⟨_,_,D,St.val λE c h w a _ M F=>⟨.func (.func f) (fs.map a) (cs.map a),by simp [execOp,Instr.makeFunc],fs.toList.map a,cs.toList.map a,by cases fs;cases cs;simp,?_⟩⟩
  exact⟨SI hA λx hx=>F x (by simp [au7];exact .inl (by simpa using hx)),SI hB λx hx=>F x (by simp [au7];exact .inr (by simpa using hx))⟩
 ·split at D<;>try (cases D;done)
  rename_i d z hz;split at D<;>try (cases D;done)
  rename_i l Z;obtain⟨h1,h2⟩:=bE D;rw[au0,ay6]at h1;obtain⟨h0,h1⟩:=h1;refine⟨_,_,h2,St.put λE c h w a N Q hC M hf F Y=>?_⟩;obtain⟨zv,a1,a6,_⟩:=Tz hz w;obtain⟨c',g1,g2,g3⟩:=hC.newVar (hf (o8 h1)) (rY h1) _ h0 (As (c:=c) (h:=h) (w:=w) Z);refine nW ?_ (Y _ _ c' g1 g2 g3);have e:zv.cells=z.toArray:=by rw[<-a1]
  simp [execOp,Instr.alloc,a6,Go.newVar,newRow,newObj,Sem.run,e]
 ·split at D<;>try (cases D;done)
  rename_i d v hv;split at D<;>try (cases D;done)
  rename_i l Z;obtain⟨h1,h2⟩:=bE D;rw[au0,ay6]at h1;obtain⟨h0,h1⟩:=h1;refine⟨_,_,h2,St.put λE c h w a N Q hC M hf F Y=>?_⟩;obtain⟨c',g1,g2,g3⟩:=hC.newVar (hf (o8 h1)) (rY h1) _ h0 (wq (F _ (by simp [au7]) _ hv) Z)
  exact nW (by simp [execOp,Instr.box,Go.newVar,newRow,newObj,Sem.run]) (Y _ _ c' g1 g2 g3)
 ·obtain⟨v,h1,h2⟩:=ef D;obtain⟨v',ah,h2⟩:=ef h2;exact anp h1 ah h2
 ·obtain⟨v,h1,h2⟩:=ef D;obtain⟨v',ah,J⟩:=ef h2;split at J<;>try (cases J;done)
  rename_i d e n b k1 m k2 m' hs;split at J<;>try (cases J;done)
  rename_i t ht;split at J<;>try (cases J;done)
  rename_i q hq;obtain⟨L,h5⟩:=bE J;simp[au0,decide_eq_true_eq,beq_iff_eq]at L;obtain⟨rfl,hb⟩:=L;obtain⟨⟨h6,h7,h8⟩,h9⟩:=il h5;obtain⟨a8,b6⟩:=bE h9;obtain⟨m,rfl⟩:∃j:Nat,m=(j:Int):=⟨aB1 m,(aA7 h7).symm⟩;refine⟨_,_,b6,St.put λE c h w a N Q hC M hf F Y=>?_⟩;obtain⟨inf,z,hu,an,hz,az,bb,ar,aE⟩:=pf hs;have U:=int_eq (F _ (by simp [au7]) _ h1)
  have O:=int_eq (F _ (by simp [au7]) _ ah)
  rw[<-h6]at O;have h8:m<=1000000000:=aF2.1 h8;have b7:(inf.bytes:Int)*(m:Int)<=281474976710656:=by rw[bb];have h1:((b*m:Nat):Int)<=((1000*1000000000:Nat):Int):=aF2.2 (aE1 hb h8);rw[Int.natCast_mul]at h1;omega
  have hr:=run_make (P:=P) w _ e inf z hu an hz k1 k2 m m (by omega) (Int.le_refl _) b7 (by omega)
  simp only[av0]at hr Y⊢;have a7:=Qg (Z0 (c:=c) (h:=h) (w:=w) hq an hz) m;have e3:(madeCells z.cells (m*inf.size)).toList=(av5 m z.cells.toList).flatten:=by rw[<-QJ (by omega),ar,az];simp [madeCells,ar]
  rw[<-e3]at a7;have cc:(madeCells z.cells (m*inf.size)).toList.length=m*wid t:=by rw[a7.len,ik,aG9]
  have ch:eB (w.alloc (.cells (madeCells z.cells (m*inf.size)) e)) e (wid t) (.slice (some ⟨w.heap.size,0,none⟩) m m) m (madeCells z.cells (m*inf.size)).toList:=by
   have:=eB.lit w (e:=e) cc (by unfold maxLen;omega)
   rwa [aH0]at this
  obtain⟨c',g1,g2,g3⟩:=hC.newRow (k:=d) (t:=t) (l:=av5 m q) (hf (o8 a8)) (rY a8) aE (EG w _) (by rw[aG9];exact ch) (λb q=>by rw[uj q];exact at9 _) a7
  exact nW (by simp only[execOp,U,O,ax3,hr,ax9,ay1]) (Y _ _ c' g1 g2 g3)
 ·rename_i ty len ps;split at D<;>try (cases D;done)
  rename_i l e n b Z hs;obtain⟨inf,z,hu,an,hz,az,bb,ar,aE⟩:=pf hs;have b0:∀{c:Cx} {h:Hp} {w:World} {a:Act},(∀x∈(Op.buildSlice ty len ps).operands,∀d,bq s.sl x=some d->SR c h w (a.eval x) d)->au (λp q=>p.1=q.1/\SR c h w p.2 q.2) (ps.toList.map λp=>(p.1,a.eval p.2)) l:=λF=>LK Z λp hp=>F p.2 (by simp [au7];exact⟨p.1,by simpa using hp⟩)
  have ck:(Op.buildSlice ty len ps)=.buildSlice ty len ps.toList.toArray:=by simp
  rw[ck]at*
  have rows:∀{t:Ty} {rows:List (den t)},F3 t 0 l=some rows->rows.length=len->wid t=n->len*n<=16777216->∀{c:Cx} {h:Hp} {w:World} {a:Act},(∀x∈(Op.buildSlice ty len ps.toList.toArray).operands,∀d,bq s.sl x=some d->SR c h w (a.eval x) d)->
    ∃cs:List Value,au (CR c h w) cs (aQ t rows)/\(execOp a.eval ⟨dst,.buildSlice ty len ps.toList.toArray,ty0,pos,af,g⟩).run P w=.ok (.value (.slice (some ⟨w.heap.size,0,none⟩) len len)) (w.alloc (.cells cs.toArray e)):=by
   intro t rows hr h1 h2 J c h w a F;subst h1;subst h2;obtain⟨qs,q1,q2⟩:=abx (pre:=[]) (LK (a:=a.eval) (c:=c) (h:=h) (w:=w) Z λp hp=>F p.2 (by simp [au7];exact⟨p.1,by simpa using hp⟩)) hr
   obtain⟨cs,f1,f2⟩:=Th (P:=P) (dst:=dst) (ty0:=ty0) (pos:=pos) (af:=af) (g:=g) (w:=w) hs J (Q:=λv x=>x=.dead\/CR c h w v x) (q1.mono λp q b1=>⟨b1.1,b1.2.mono λ_ _=>.inr⟩) (λv=>.inl rfl) (by simpa[aQ]using q2)
   refine⟨cs,au.of f1.len λi u x hu hx=>?_,f2⟩;obtain⟨u',U,O⟩:=f1.get hx;rw[hu]at U;cases U;rcases O with rfl|O
   ·obtain⟨_,_,e3⟩:=uA _ _ (az6 hx);cases e3
   ·exact O
  have mx:∀{m:Nat},m*n<=16777216->m<=maxLen:=λ{m} h=>by have:m*1<=m*n:=Nat.mul_le_mul_left _ aE;unfold maxLen;omega
  split at D
  ·rename_i v;split at D<;>try (cases D;done)
   rename_i cs b8;split at D<;>try (cases D;done)
   rename_i q hq;obtain⟨h1,h2⟩:=bE D;simp only[au0,Nat.ble_eq]at h1;have J:=aw6 h1.1.1;have L:=aw6 h1.1.2;subst J;subst L;refine⟨_,_,h2,λE c h w a N Q hC M _ F Y=>?_⟩;rw[bu.self M]at Y;have Z:=b0 F;cases hp:ps.toList.map λp=>(p.1,a.eval p.2)with
   |nil=>rw[hp]at Z;cases Z
   |cons p0 pr=>
    rw[hp]at Z;cases Z with
    |cons g1 gt=>
     cases gt;have g2:=wq g1.2 b8
     obtain⟨us,f1,f2⟩:=Th (P:=P) (dst:=dst) (ty0:=ty0) (pos:=pos) (af:=af) (g:=g) (w:=w) (a:=a.eval) (parts:=ps.toList) hs (len:=1) (by omega) (Q:=λv x=>x=.dead\/CR c h w v x) (ps:=[(0,cs)]) (r:=cs) (by
      rw[hp];exact .cons ⟨g1.1,g2.mono λ_ _=>.inr⟩ .nil) (λv=>.inl rfl) (by
      unfold ot ot;simp [eD,Tk hq])
     obtain⟨k1,k2⟩:=hC.A9 (EG w (.cells us.toArray e)) (λb i=>c.A b i\/b=w.heap.size) (λb i q=>.inl q) λb i q=>q.imp id λq=>⟨Nat.le_of_eq q.symm,by rw[q];simp⟩
     have bx:au (CR c h w) us cs:=au.of f1.len λi u x hu hx=>by
      obtain⟨u',U,O⟩:=f1.get hx;rw[hu]at U;cases U;rcases O with rfl|O
      ·obtain⟨u2,_,e3⟩:=g2.get hx
       exact absurd hq (by
        have:∀(l:List DC) q,DC.dead∈l->uw l≠some q:=λl=>by
         induction l with
         |nil=>intro q hm;cases hm
         |cons x r ih=>
          intro q hm e;unfold uw at e;split at e<;>try (cases e;done)
          rename_i U O;rcases aw2.1 hm with hm|hm
          ·subst hm;cases U
          ·exact ih _ hm O
        exact this _ _ (az6 hx))
      ·exact O
     refine nW f2 (Y _ _ _ k1 k2 ⟨_,_,_,rfl,at9 _,by unfold maxLen;omega,λi x hx=>?_⟩)
     have hi:i<us.length:=by rw[bx.len,<-Tk hq];exact(ay9.1 hx).1
     refine⟨us[i],⟨.inr rfl,?_⟩,?_⟩
     ·rw[ax2,cell_of (heap_alloc_new w _)];simp [hi]
     ·have:=acB hq bx i us[i] x (au4 hi) hx;cases x with
      |v t x=>exact⟨this.1,this.2.mono k2.cell t λ_ _ q=>q⟩
      |nil=>exact this
  ·split at D
   ·refine⟨_,_,D,λE c h w a N Q hC M _ F Y=>?_⟩;rw[bu.self M]at Y;have Z:=b0 F;obtain⟨us,f1,f2⟩:=Th (P:=P) (dst:=dst) (ty0:=ty0) (pos:=pos) (af:=af) (g:=g) (w:=w) (a:=a.eval) (parts:=ps.toList) hs (len:=0) (by omega) (Q:=λv x=>True) (ps:=[]) (r:=[]) (by generalize ps.toList.map (λp=>(p.1,a.eval p.2))=q at Z⊢;cases Z;exact .nil) (λv=>trivial) (by simp [ot])
    obtain⟨k1,k2⟩:=hC.same (EG w (.cells us.toArray e));exact nW f2 (Y _ _ c k1 k2 ⟨_,rfl⟩)
   ·split at D<;>try (cases D;done)
    rename_i t ht;split at D<;>try (cases D;done)
    rename_i b4 b2;obtain⟨h1,h2⟩:=bE D;simp only[au0,decide_eq_true_eq,beq_iff_eq]at h1;obtain⟨⟨J,L⟩,h5⟩:=h1;split at h2<;>try (cases h2;done)
    ·refine⟨_,_,h2,λE c h w a N Q hC M _ F Y=>?_⟩;rw[bu.self M]at Y;obtain⟨us,f1,f2⟩:=rows b2 J L h5 F;obtain⟨c',k1,k2,k3⟩:=hC.frozen (EG w (.cells us.toArray e)) (t:=t) (l:=b4) (by rw[J];exact eB.lit w (by rw[f1.len,ik,J]) (mx h5)) (λb q=>by rw[uj q];exact at9 _) f1
     exact nW f2 (Y _ _ c' k1 k2 k3)
    ·rename_i d _;obtain⟨h6,h7⟩:=bE h2;refine⟨_,_,h7,St.put λE c h w a N Q hC M hf F Y=>?_⟩;obtain⟨us,f1,f2⟩:=rows b2 J L h5 F;obtain⟨c',k1,k2,k3⟩:=hC.newRow (k:=d) (hf (o8 h6)) (rY h6) (by omega) (EG w (.cells us.toArray e)) (t:=t) (l:=b4) (by rw[J];exact eB.lit w (by rw[f1.len,ik,J]) (mx h5)) (λb q=>by rw[uj q];exact at9 _) f1
     exact nW f2 (Y _ _ c' k1 k2 k3)
 ·obtain⟨v,h1,h2⟩:=ef D;obtain⟨u,J,L⟩:=ard (ty0:=ty0) h2;exact⟨u,_,J,st1 h1 L (by simp [au7,Call.operands]) λa w z e=>by simp only[execOp,resolve,invoke,builtin,ax3,ay1,ax9,List.map_toArray,aF4,List.map_nil,e]⟩
 ·obtain⟨h0,h1⟩:=bE D;have h0:=of_decide_eq_true h0;subst h0;obtain⟨v,h1,h2⟩:=ef h1;obtain⟨v',ah,h2⟩:=ef h2;exact am8 h1 ah h2
 ·obtain⟨v,h1,h2⟩:=ef D;exact aoJ h1 h2
 rotate_left 2
 ·obtain⟨v,h1,h2⟩:=ef D;cases dst with
  |none=>cases h2
  |some d=>exact anH h1 h2
 ·obtain⟨v,h1,h2⟩:=ef D;exact apC h1 h2
 all_goals
  split at D<;>try (cases D;done)
  rename_i hx hy;refine⟨_,_,D,St.val λE c h w a _ M F=>?_⟩;have U:=int_eq (F _ (by simp [au7,Call.operands]) _ hx)
  have O:=int_eq (F _ (by simp [au7,Call.operands]) _ hy)
  first
   |exact⟨_,by simp [execOp,resolve,invoke,builtin,Builtin.max_,Builtin.max2,U,O];rfl,rfl,rfl⟩
   |exact⟨_,by simp [execOp,resolve,invoke,builtin,Builtin.min_,Builtin.min2,U,O];rfl,rfl,rfl⟩
end
inductive Sh where
 |dead
 |v (t:Ty)
 |kb (b:Bool)
 |nil
 |np
 |z
 |mH (f:Nat)
 |own (k:Nat)
 |ptr (k i:Nat)
 |el (t:Ty) (j:Nat)
 |OO (k j:Nat)
 |nJ (k:Nat)
 |OG (k j:Nat)
inductive SS where
 |c (x:Sh)
 |agg (l:List Sh)
 |fn (f:Nat) (a b:List Sh)
 |st (t:Ty)
inductive SO where
 |var (ty:TypeId) (l:List Sh)
 |row (ty:TypeId) (t:Ty)
 |st (ty:TypeId) (t:Ty)
 |bF (ty:TypeId) (t:Ty) (l:List Sh)
structure Shape where
 sl:List (Nat×SS)
 hp:List (Nat×SO)
@[reducible] def VC(X:Type):Sh->Type
 |.v t=>den t×X
 |.el t _=>den t×X
 |.OO _ _=>Nat×X
 |.nJ _=>Nat×X
 |_=>X
@[reducible] def VL(X:Type):List Sh->Type
 |[]=>X
 |s::r=>VC (VL X r) s
@[reducible] def VS(X:Type):SS->Type
 |.c x=>VC X x
 |.agg l=>VL X l
 |.fn _ a b=>VL (VL X b) a
 |.st t=>den t×X
@[reducible] def pZ(X:Type):List (Nat×SS)->Type
 |[]=>X
 |p::r=>VS (pZ X r) p.2
@[reducible] def VO(X:Type):SO->Type
 |.var _ l=>VL X l
 |.row _ t=>List (den t)×X
 |.st _ t=>den t×X
 |.bF _ t l=>Bool×(List (den t)×VL X l)
@[reducible] def VH(X:Type):List (Nat×SO)->Type
 |[]=>X
 |p::r=>VO (VH X r) p.2
@[reducible] def cm(sh:Shape):Type:=pZ (VH Unit sh.hp) sh.sl
def mkC{X:Type}:(s:Sh)->VC X s->DC×X
 |.dead,x=>(.dead,x)
 |.v t,x=>(.v t x.1,x.2)
 |.kb b,x=>(.kb b,x)
 |.nil,x=>(.nil,x)
 |.np,x=>(.np,x)
 |.z,x=>(.z,x)
 |.mH f,x=>(.mH f,x)
 |.own k,x=>(.ow k 0 .all,x)
 |.ptr k i,x=>(.ptr k i,x)
 |.el t j,x=>(.el t x.1 j,x.2)
 |.OO k j,x=>(.ow k 0 (.el x.1 j),x.2)
 |.nJ k,x=>(.ow k 0 (.nJ x.1),x.2)
 |.OG k j,x=>(.ow k 0 (.tb j),x)
def mkL{X:Type}:(l:List Sh)->VL X l->List DC×X
 |[],x=>([],x)
 |s::r,x=>((mkC s x).1::(mkL r (mkC s x).2).1,(mkL r (mkC s x).2).2)
def mkS{X:Type}:(s:SS)->VS X s->DS×X
 |.c s,x=>(.c (mkC s x).1,(mkC s x).2)
 |.agg l,x=>(.agg (mkL l x).1,(mkL l x).2)
 |.fn f a b,x=>(.fn (.func f) (mkL a x).1 (mkL b (mkL a x).2).1,(mkL b (mkL a x).2).2)
 |.st t,x=>(.agg (cA t x.1),x.2)
def mkSl{X:Type}:(l:List (Nat×SS))->pZ X l->cG×X
 |[],x=>([],x)
 |p::r,x=>((p.1,(mkS p.2 x).1)::(mkSl r (mkS p.2 x).2).1,(mkSl r (mkS p.2 x).2).2)
def mkO{X:Type}:(s:SO)->VO X s->aR×X
 |.var ty l,x=>(.var ty (mkL l x).1,(mkL l x).2)
 |.row ty t,x=>(.row [] ty t x.1,x.2)
 |.st ty t,x=>(.var ty (cA t x.1),x.2)
 |.bF ty t l,x=>(.bF [] ty t x.1 x.2.1 (mkL l x.2.2).1,(mkL l x.2.2).2)
def mkH{X:Type}:(l:List (Nat×SO))->VH X l->ax×X
 |[],x=>([],x)
 |p::r,x=>((p.1,(mkO p.2 x).1)::(mkH r (mkO p.2 x).2).1,(mkH r (mkO p.2 x).2).2)
def mkD(sh:Shape)(x:cm sh):aF:=⟨(mkSl sh.sl x).1,(mkH sh.hp (mkSl sh.sl x).2).1⟩
def dq(ks:List Nat)(k:Nat):Bool:=match ks with|[]=>false|q::r=>au9 q k||dq r k
def km:List Nat->Bool
 |[]=>true
 |k::r=> !dq r k&&km r
def td(ks:List Nat):Sh->Bool
 |.own k=>dq ks k
 |.ptr k _=>dq ks k
 |.OO k _=>dq ks k
 |.nJ k=>dq ks k
 |.OG k _=>dq ks k
 |_=>true
def HU(ks:List Nat):SS->Bool
 |.c s=>td ks s
 |.agg l=>l.all (td ks)
 |.fn _ a b=>a.all (td ks)&&b.all (td ks)
 |.st _=>true
def OQ(ks:List Nat):SO->Bool
 |.var _ l=>l.all (td ks)
 |.bF _ _ l=>l.all (td ks)
 |_=>true
def AX(sh:Shape):Bool:=km (sh.hp.map (·.1))&&sh.sl.all (λp=>HU (sh.hp.map (·.1)) p.2)&&sh.hp.all (λp=>OQ (sh.hp.map (·.1)) p.2)
section
variable (eq:Nat->Nat->Bool) (H:ax)
def F7(k g:Nat):Bool:=(rowAt H k g).isSome
abbrev PC:=(X:Type)->(s:Sh)->DC->X->Option (VC X s)
def uu(X:Type):(s:Sh)->DC->X->Option (VC X s)
 |.dead,_,x=>some x
 |.v t,c,x=>match lS t with
  |true=>match rq t c with|some q=>some (q,x)|none=>none
  |false=>none
 |.kb true,.kb true,x=>some x
 |.kb false,.kb false,x=>some x
 |.nil,.nil,x=>some x
 |.np,.np,x=>some x
 |.z,.z,x=>some x
 |.z,.nil,x=>some x
 |.mH f,.mH J,x=>match au9 f J with|true=>some x|false=>none
 |.own k,.ow D g .all,x=>match eq k D&&F7 H D g with|true=>some x|false=>none
 |.ptr k i,.ptr D L,x=>match eq k D&&au9 i L with|true=>some x|_=>none
 |.el t j,.el M q F,x=>match nn M t,au9 j F with|some h,true=>some (h.down▸q,x)|_,_=>none
 |.OO k j,.ow D g (.el i F),x=>match eq k D&&F7 H D g&&au9 j F with|true=>some (i,x)|_=>none
 |.nJ k,.ow D g (.nJ i),x=>match eq k D&&F7 H D g with|true=>some (i,x)|_=>none
 |.OG k j,.ow D g (.tb F),x=>match eq k D&&F7 H D g&&au9 j F with|true=>some x|_=>none
 |_,_,_=>none
variable {X:Type} (pc:PC) (jn:(t:Ty)->List DC->Option (den t))
def ur:(l:List Sh)->List DC->X->Option (VL X l)
 |[],[],x=>some x
 |s::r,c::q,x=>match ur r q x with|some y=>pc _ s c y|none=>none
 |_,_,_=>none
def T9:(s:SS)->DS->X->Option (VS X s)
 |.c s,.c c,x=>pc X s c x
 |.agg l,.agg q,x=>ur pc l q x
 |.fn f a b,.fn (.func D) u w,x=>match au9 f D with
  |true=>match ur pc b w x with|some y=>ur pc a u y|none=>none
  |false=>none
 |.st t,.agg q,x=>match jn t q with|some v=>some (v,x)|none=>none
 |_,_,_=>none
def Ax(s:cG):(l:List (Nat×SS))->X->Option (pZ X l)
 |[],x=>some x
 |p::r,x=>match Ax s r x with|some y=>T9 pc jn p.2 (bM s p.1) y|none=>none
def T':(s:SO)->aR->X->Option (VO X s)
 |.var ty l,.var D q,x=>match au9 ty D with|true=>ur pc l q x|false=>none
 |.row ty t,.row _ D F l,x=>match au9 ty D,nn F t with|true,some h=>some (h.down▸l,x)|_,_=>none
 |.st ty t,.var D q,x=>match au9 ty D,qN t q with|true,some v=>some (v,x)|_,_=>none
 |.bF ty t l,.bF _ D F e q last,x=>match au9 ty D,nn F t,ur pc l last x with|true,some h,some y=>some (e,h.down▸q,y)|_,_,_=>none
 |_,_,_=>none
def MS(fnd:Nat->Option aR):(l:List (Nat×SO))->X->Option (VH X l)
 |[],x=>some x
 |p::r,x=>match MS fnd r x with
  |some y=>match fnd p.1 with|some o=>T' pc p.2 o y|none=>none
  |none=>none
end
def proj(eq:Nat->Nat->Bool)(fnd:Nat->Option aR)(sh:Shape)(s:aF):Option (cm sh):=
 match MS (uu eq s.hp) fnd sh.hp ()with|some y=>Ax (uu eq s.hp) qN s.sl sh.sl y|none=>none
inductive nM:aR->aR->Prop where
 |row {o o':aR} {hs:List (Option Nat)} {ty:TypeId} {wd:Nat} (h:cX o=some (hs,ty,wd)) (h':cX o'=some ([],ty,wd)) (hl:bc o'=bc o):nM o o'
 |var (ty:TypeId) (l l':List DC):nM (.var ty l) (.var ty l')
structure ad1(eq:Nat->Nat->Bool)(ks:List Nat)(c:Cx)(h:Hp)(w:World)(c':Cx)(h':Hp):Prop where
 key:∀k k',eq k k'=true->dq ks k=true->∃o o',h k'=some o/\h' k=some o'/\nM o o'/\c'.m k=c.m k'
 cell:uE c.A w c'.A w
section
variable {X:Type} {eq:Nat->Nat->Bool} {ks:List Nat} {c c':Cx} {H:ax} {h h':Hp} {w:World}
theorem aag(ah:Sub H h)(hR:ad1 eq ks c h w c' h'){s:Sh}{d:DC}{x:X}{v:VC X s}(hc:td ks s=true)(hp:uu eq H X s d x=some v):(∀u,CR c h w u d->CR c' h' w u (mkC s v).1)/\(mkC s v).2=x:=by
 have now:∀{k F g:Nat} {p:PK},eq k F=true->F7 H F g=true->dq ks k=true->∀u,CR c h w u (.ow F g p)->CR c' h' w u (.ow k 0 p):=by
  intro k F g p h1 h2 h3 u hu;obtain⟨o,ho⟩:=aB0.1 h2;obtain⟨hs,ty,wd,hr,hm⟩:=iO (w:=w) (H:=H) ah ho hu;obtain⟨o1,o',L,N,O,U⟩:=hR.key k F h1 h3;rw[ah _ _ (jT ho).1]at L;cases L;cases O with
  |var=>cases hr
  |row J h5 M=>rw[hr]at J;injection J with J;simp[Prod.mk.injEq]at J;obtain⟨_,rfl,rfl⟩:=J;exact⟨hu.1,o',N,some (bc o'),by simp [cD,h5],_,_,_,h5,λm Y=>by injection Y with Y;subst Y;exact⟨at9 _,λ_=>by rw[U,M];exact hm⟩⟩
 unfold uu at hp;split at hp<;>first|(cases hp;done)|skip
 ·cases hp;exact⟨λu hu=>CR.one hu,rfl⟩
 ·split at hp<;>try (cases hp;done)
  split at hp<;>try (cases hp;done)
  rename_i hs _ q hq;cases hp;exact⟨λu hu=>by obtain⟨h1,h2⟩:=uk hs hq hu;exact⟨h1,h2.mono hR.cell _ λ_ _ h=>h⟩,rfl⟩
 all_goals try (cases hp;exact⟨λu hu=>hu,rfl⟩)
 ·cases hp;exact⟨λu hu=>⟨none,hu⟩,rfl⟩
 all_goals
  split at hp<;>try (cases hp;done)
  cases hp
 ·rename_i hf;rw[aw6 hf];exact⟨λu hu=>hu,rfl⟩
 ·rename_i D;rw[au0]at D;exact⟨now D.1 D.2 hc,rfl⟩
 ·rename_i k i F i' _ D;rw[au0]at D;obtain rfl:=aw6 D.2;refine⟨λu hu=>⟨hu.1,?_⟩,rfl⟩;obtain⟨o,o',L,N,O,U⟩:=hR.key k F D.1 hc;obtain⟨o2,Z,M⟩:=hu.2;rw[L]at Z;cases Z;refine⟨o',N,?_⟩;cases O with
  |row h1 h2=>obtain⟨⟨_,_,rfl⟩,_⟩:=M;cases h1
  |var ty l l'=>exact⟨⟨_,_,rfl⟩,by rw[U];exact M.2⟩
 ·rename_i e _ hj;obtain⟨e⟩:=e;subst e;obtain rfl:=aw6 hj;exact⟨λu ⟨b,o,h1,h2⟩=>⟨b,o,h1,h2.mono hR.cell _ λi v q=>hR.cell _ _ _ q.1 q.2⟩,rfl⟩
 ·rename_i D;rw[au0,au0]at D;obtain rfl:=aw6 D.2;exact⟨now D.1.1 D.1.2 hc,rfl⟩
 ·rename_i D;rw[au0]at D;exact⟨now D.1 D.2 hc,rfl⟩
 ·rename_i D;rw[au0,au0]at D;obtain rfl:=aw6 D.2;exact⟨now D.1.1 D.1.2 hc,rfl⟩
theorem anY{s:Sh}{d:DC}{x:X}{v:VC X s}(hp:uu eq H X s d x=some v):(mkC s v).2=x:=by
 unfold uu at hp;split at hp<;>first|(cases hp;done)|(cases hp;rfl)|skip
 all_goals
  split at hp<;>try (cases hp;done)
  first
   |(cases hp;rfl)
   |(split at hp<;>first|(cases hp;done)|(cases hp;rfl))
end
section
variable {pc:PC} {jn:(t:Ty)->List DC->Option (den t)} {Q Q':Value->DC->Prop} {ks:List Nat} (hpc:∀(X:Type) (s:Sh) (d:DC) (x:X) (v:VC X s),td ks s=true->pc X s d x=some v->(∀u,Q u d->Q' u (mkC s v).1)/\(mkC s v).2=x)
include hpc
theorem z6{X:Type}:∀{l:List Sh} {q:List DC} {x:X} {v:VL X l},l.all (td ks)=true->ur pc l q x=some v->(∀us,au Q us q->au Q' us (mkL l v).1)/\(mkL l v).2=x
 |[],[],x,v,_,h=>by cases h;exact⟨λus hu=>by cases hu;exact .nil,rfl⟩
 |[],_::_,_,_,_,h=>nomatch h
 |_::_,[],_,_,_,h=>nomatch h
 |s::r,d::q,x,v,hc,h=>by
  unfold ur at h;rw[ay4,au0]at hc;split at h<;>try (cases h;done)
  obtain⟨h1,h2⟩:=hpc _ _ _ _ _ hc.1 h;obtain⟨D,F⟩:=z6 hc.2 (by omega)
  show(∀us,_->au Q' us ((mkC s v).1::(mkL r (mkC s v).2).1))/\(mkL r (mkC s v).2).2=x;rw[h2];exact⟨λus hu=>by cases hu with|cons a b=>exact .cons (h1 _ a) (D _ b),F⟩
theorem apo{X:Type}{s:SO}{o:aR}{x:X}{v:VO X s}(hv:∀u t d,Q u (.v t d)->Q' u (.v t d))(O:∀t q d us,qN t q=some d->au Q us q->au Q' us (cA t d))(hc:OQ ks s=true)(h:T' pc s o x=some v):(nM o (mkO s v).1/\∀us,au Q us (dT o)->au Q' us (dT (mkO s v).1))/\(mkO s v).2=x:=by
 have fl:∀{t:Ty} {l:List (den t)} {us:List Value},au Q us (aQ t l)->au Q' us (aQ t l):=λ{t l us} hu=>au.of hu.len λi u x h1 h2=>by obtain⟨u',F,Z⟩:=hu.get h2;rw[h1]at F;cases F;obtain⟨t',Y,rfl⟩:=uA _ _ (az6 h2);grind
 unfold T' at h;split at h<;>try (cases h;done)
 ·split at h<;>try (cases h;done)
  rename_i D;obtain rfl:=aw6 D;obtain⟨h1,h2⟩:=z6 hpc hc h;exact⟨⟨.var _ _ _,h1⟩,h2⟩
 ·split at h<;>try (cases h;done)
  rename_i _ _ e D _;obtain rfl:=aw6 D;obtain⟨e⟩:=e;subst e;cases h;exact⟨⟨.row rfl rfl rfl,λus hu=>fl hu⟩,rfl⟩
 ·split at h<;>try (cases h;done)
  rename_i D N;obtain rfl:=aw6 D;cases h;exact⟨⟨.var _ _ _,λus hu=>O _ _ _ _ N hu⟩,rfl⟩
 ·split at h<;>try (cases h;done)
  rename_i M q last _ _ _ e _ D _ U;obtain rfl:=aw6 D;obtain⟨e⟩:=e;subst e;cases h;obtain⟨h1,h2⟩:=z6 hpc hc U;refine⟨⟨.row rfl rfl rfl,λus hu=>?_⟩,h2⟩;cases M with
  |true=>have hu:=hu;cases hu;exact .nil
  |false=>have hu:au Q us (aQ _ q++last):=hu;have J:=hu.take (aQ _ q).length;have L:=hu.drop (aQ _ q).length;rw[aB2]at J;rw[aC2]at L;rw[<-ax4 (aQ _ q).length us];exact(fl J).app (h1 _ L)
theorem Se{X:Type}{fnd:Nat->Option aR}(F:∀u t d,Q u (.v t d)->Q' u (.v t d))(D:∀t q d us,qN t q=some d->au Q us q->au Q' us (cA t d)):∀{l:List (Nat×SO)} {x:X} {v:VH X l},l.all (λp=>OQ ks p.2)=true->MS pc fnd l x=some v->
  ((∀k o',aj (mkH l v).1 k=some o'->∃o,fnd k=some o/\nM o o'/\∀us,au Q us (dT o)->au Q' us (dT o'))/\∀k,dq (l.map (·.1)) k=true->(aj (mkH l v).1 k).isSome=true)/\(mkH l v).2=x
 |[],x,v,_,h=>by cases h;exact⟨⟨λk o' h=>(by cases h),λk h=>(by cases h)⟩,rfl⟩
 |p::r,x,v,hc,h=>by
  unfold MS at h;rw[ay4,au0]at hc;split at h<;>try (cases h;done)
  rename_i y L;split at h<;>try (cases h;done)
  rename_i o U;obtain⟨h1,h2⟩:=apo hpc F D hc.1 h;obtain⟨⟨M,N⟩,J⟩:=Se F D hc.2 L;show((∀k o',aj ((p.1,(mkO p.2 v).1)::(mkH r (mkO p.2 v).2).1) k=some o'->_)/\∀k,_->(aj ((p.1,(mkO p.2 v).1)::(mkH r (mkO p.2 v).2).1) k).isSome=true)/\(mkH r (mkO p.2 v).2).2=x;rw[h2];refine⟨⟨λk o' e=>?_,λk hk=>?_⟩,J⟩
  ·grind[aj]
  ·unfold aj;split
   ·rfl
   ·rename_i O;have hk:(au9 p.1 k||dq (r.map (·.1)) k)=true:=hk
    simp_all
theorem apn{X:Type}{c c':Cx}{h h':Hp}{w w':World}(D:∀u x,CR c h w u x->Q u x)(F:∀u x,Q' u x->CR c' h' w' u x)(M:∀t q d us,jn t q=some d->au Q us q->au Q' us (cA t d)){s:SS}{d:DS}{x:X}{v:VS X s}(hc:HU ks s=true)(hp:T9 pc jn s d x=some v):(∀u,SR c h w u d->SR c' h' w' u (mkS s v).1)/\(mkS s v).2=x:=by
 unfold T9 at hp;split at hp<;>try (cases hp;done)
 ·obtain⟨h1,h2⟩:=hpc _ _ _ _ _ hc hp;exact⟨λu hu=>F _ _ (h1 u (D _ _ hu)),h2⟩
 ·obtain⟨h1,h2⟩:=z6 hpc hc hp;exact⟨λu ⟨vs,e,hu⟩=>⟨vs,e,(h1 vs (hu.mono D)).mono F⟩,h2⟩
 ·split at hp<;>try (cases hp;done)
  rename_i hf;split at hp<;>try (cases hp;done)
  rename_i y O;unfold HU at hc;rw[au0]at hc;obtain rfl:=aw6 hf;obtain⟨h1,h2⟩:=z6 hpc hc.1 hp;obtain⟨J,L⟩:=z6 hpc hc.2 O;rename_i f a b u w _ _;show(∀u,_->SR c' h' w' u (.fn (.func f) (mkL a v).1 (mkL b (mkL a v).2).1))/\(mkL b (mkL a v).2).2=x;rw[h2];exact⟨λz ⟨vs,us,e,g1,g2⟩=>⟨vs,us,e,(h1 _ (g1.mono D)).mono F,(J _ (g2.mono D)).mono F⟩,L⟩
 ·split at hp<;>try (cases hp;done)
  rename_i v N;cases hp;exact⟨λu ⟨vs,e,hu⟩=>⟨vs,e,(M _ _ _ _ N (hu.mono D)).mono F⟩,rfl⟩
theorem RB{X:Type}{c c':Cx}{h h':Hp}{w w':World}(F:∀u x,CR c h w u x->Q u x)(J:∀u x,Q' u x->CR c' h' w' u x)(D:∀t q d us,jn t q=some d->au Q us q->au Q' us (cA t d)){s:cG}:∀{l:List (Nat×SS)} {x:X} {v:pZ X l},l.all (λp=>HU ks p.2)=true->Ax pc jn s l x=some v->
  (∀t u,SR c h w u (bM s t)->SR c' h' w' u (bM (mkSl l v).1 t))/\(mkSl l v).2=x
 |[],x,v,_,hp=>by cases hp;exact⟨λt u _=>trivial,rfl⟩
 |p::r,x,v,hc,hp=>by
  unfold Ax at hp;rw[ay4,au0]at hc;split at hp<;>try (cases hp;done)
  rename_i y M;obtain⟨h1,h2⟩:=apn hpc F J D hc.1 hp;obtain⟨N,L⟩:=RB F J D hc.2 M;show(∀t u,_->SR c' h' w' u (bM ((p.1,(mkS p.2 v).1)::(mkSl r (mkS p.2 v).2).1) t))/\(mkSl r (mkS p.2 v).2).2=x;rw[h2];refine⟨λt u hu=>?_,L⟩;unfold bM;split
  ·grind
  ·grind
end
def Told(n:Nat)(E:cP)(σ:Nat->DS)(h:Hp)(a:Act)(w:World):Prop:=(∃c,Conc E c h w/\∀t,SR c h w (a.tmps.getD t undef) (σ t))/\a.tmps.size=n/\a.defers=E.df
def fI(s D:aF):Prop:= ∀(E:cP) (c:Cx) (w:World) (u:Nat->Value),Conc E c (aj s.hp) w->(∀t,SR c (aj s.hp) w (u t) (bM s.sl t))->∃c',Conc E c' (aj D.hp) w/\∀t,SR c' (aj D.hp) w (u t) (bM D.sl t)
theorem fI.refl(s:aF):fI s s:=λE c w u h1 h2=>⟨c,h1,h2⟩
theorem fI.trans{s D F:aF}(h:fI s D)(h':fI D F):fI s F:=λE c w u h1 h2=>by obtain⟨c',J,L⟩:=h E c w u h1 h2;exact h' E c' w u J L
theorem fI.told{s D:aF}(hw:fI s D){n:Nat}{E:cP}{a:Act}{w:World}(h:Told n E (bM s.sl) (aj s.hp) a w):Told n E (bM D.sl) (aj D.hp) a w:=by obtain⟨⟨c,h1,h2⟩,F,J⟩:=h;exact⟨hw E c w _ h1 h2,F,J⟩
theorem nM.obj{c c':Cx}{h h':Hp}{w:World}{k J:Nat}{o o':aR}(hs:nM o o')(hm:c'.m J=c.m k)(hc:∀us,au (CR c h w) us (dT o)->au (CR c' h' w) us (dT o'))(F:nG c h w k o):nG c' h' w J o':=by
 cases hs with
 |var ty l O=>obtain⟨b,cs,h1,h2,D⟩:=F;exact⟨b,cs,hm.trans h1,h2,hc _ D⟩
 |row h1 h2 D=>
  obtain⟨N,xs,L,M⟩:=F.row h1;cases o' with
  |var=>cases h2
  |_=>exact⟨_,_,_,xs,h2,N,by rw[hm,D];exact L,hc _ M⟩
theorem nM.pl{o o':aR}{m:Value}(hs:nM o o'):PL m o m o':=by
 unfold PL;cases hs with
 |var=>exact⟨⟨_,rfl⟩,rfl⟩
 |row h1 h2 D=>grind
section
variable {sh:Shape} {s:aF} {v:cm sh} {eq:Nat->Nat->Bool} {fnd:Nat->Option aR}
theorem Z'(h:AX sh=true):sh.sl.all (λp=>HU (sh.hp.map (·.1)) p.2)=true/\sh.hp.all (λp=>OQ (sh.hp.map (·.1)) p.2)=true:=by grind[AX]
theorem abE{h:Hp}(ah:Sub s.hp h)(ho:AX sh=true)(hp:proj eq fnd sh s=some v)(hf:∀k o,fnd k=some o->∃D,h D=some o/\∀q,dq (sh.hp.map (·.1)) k=true->eq k q=true->q=D){c c':Cx}{w:World}(hm:∀k D,dq (sh.hp.map (·.1)) k=true->eq k D=true->c'.m k=c.m D)(hA:uE c.A w c'.A w):
  (∀k o',aj (mkD sh v).hp k=some o'->∃o,fnd k=some o/\nM o o'/\∀us,au (CR c h w) us (dT o)->au (CR c' (aj (mkD sh v).hp) w) us (dT o'))/\(∀k,dq (sh.hp.map (·.1)) k=true->(aj (mkD sh v).hp k).isSome=true)/\
  ∀t u,SR c h w u (bM s.sl t)->SR c' (aj (mkD sh v).hp) w u (bM (mkD sh v).sl t):=by
 obtain⟨h1,h2⟩:=Z' ho;unfold proj at hp;split at hp<;>try (cases hp;done)
 rename_i y U;obtain⟨⟨f1,f2⟩,_⟩:=Se (Q:=λ_ _=>True) (Q':=λ_ _=>True) (ks:=sh.hp.map (·.1)) (λX Y d x v _ hp=>⟨λ_ _=>trivial,anY hp⟩) (λ_ _ _ _=>trivial) (λt q d us N hu=>by obtain⟨l1,e,F⟩:=Fv (Q:=λ_ _=>True) (Q':=λ_ _=>True) (λ_ _ _ _ _ _ _=>trivial) t (Fa N);rw[aw5]at e;subst e;exact F us hu) h2 U
 have hR:ad1 eq (sh.hp.map (·.1)) c h w c' (aj (mkH sh.hp y).1):=⟨λk D F J=>by obtain⟨o',L⟩:=aB0.1 (f2 k J);obtain⟨o,M,Z,_⟩:=f1 k o' L;obtain⟨k2,e4,e5⟩:=hf k o M;obtain rfl:=e5 D J F;exact⟨o,o',e4,L,Z,hm k D J F⟩,hA⟩
 have hpc:=λ(X:Type) Y d x v hc (hp:uu eq s.hp X Y d x=some v)=>aag ah hR hc hp;have O:∀t q d us,qN t q=some d->au (CR c h w) us q->au (CR c' (aj (mkH sh.hp y).1) w) us (cA t d):=λt q d us N hu=>au.of (by rw[(Ad N hu).len]) λi u x F J=>by obtain⟨u',L,M⟩:=(Ad N hu).get J;rw[F]at L;cases L;obtain⟨t',d',rfl⟩:=M6 _ _ _ (az6 J);exact⟨M.1,M.2.mono hA _ λ_ _ h=>h⟩
 obtain⟨⟨g1,g2⟩,_⟩:=Se hpc (λu t d hu=>⟨hu.1,hu.2.mono hA _ λ_ _ h=>h⟩) O h2 U;obtain⟨g3,g4⟩:=RB hpc (λ_ _ h=>h) (λ_ _ h=>h) O h1 hp;have e:(mkD sh v).hp=(mkH sh.hp y).1:=by show(mkH sh.hp (mkSl sh.sl v).2).1=_;rw[g4]
 rw[e];exact⟨g1,g2,g3⟩
def asO(x:Nat)(sh:Shape)(s:aF):Bool:=s.hp.all λp=>Nat.blt p.1 1000||dw p.1||dq (x::sh.hp.map (·.1)) p.1
def MR(x:Nat)(sh:Shape)(s:aF):Option (cm sh):=match AX sh&&asO x sh s with|true=>proj au9 (aj s.hp) sh s|false=>none
def qK(sh:Shape)(s:aF):Option (cm sh):=MR 0 sh s
theorem z7:∀{H:ax} {k:Nat} {o:aR},aj H k=some o->(k,o)∈H
 |(q,u)::H,k,o,e=>by
  unfold aj at e;split at e
  ·grind
  ·exact ax5 _ (z7 e)
def Gd(x:Nat)(s D:aF):Prop:= ∀(E:cP) (c:Cx) (h:Hp) (w:World) (u:Nat->Value),E.H x=none->Conc E c h w->Sub s.hp h->(∀k,h k≠none->aj s.hp k=none->k<1000)->(∀t,SR c h w (u t) (bM s.sl t))->∃c',Conc E c' (aj D.hp) w/\∀t,SR c' (aj D.hp) w (u t) (bM D.sl t)
theorem aaf{x:Nat}{sh:Shape}{s:aF}{v:cm sh}(h:MR x sh s=some v):Gd x s (mkD sh v):=by
 unfold MR at h;split at h<;>try (cases h;done)
 rename_i D;rw[au0]at D;intro E c h0 w u Y hC L hex hu;obtain⟨h1,h2,h3⟩:=abE L D.1 h (λk o e=>⟨k,L k o e,λq _ hq=>(aw6 hq).symm⟩) (c:=c) (c':=c) (w:=w) (λk k' _ e=>by rw[aw6 e]) λ_ _ _ h1 h2=>⟨h1,h2⟩
 refine⟨c,hC.AV (λk o' e=>?_) (λ_ _ h=>h) (λ_ _ h=>.inl h) λk o e=>?_,λt=>h3 t _ (hu t)⟩
 ·obtain⟨o,M,N,F⟩:=h1 k o' e;exact⟨N.obj rfl F (hC.obj k o (L k o M)),λb D=>⟨⟨o,L k o M⟩,D⟩⟩
 ·obtain⟨hk,Z,M,N⟩:=hC.ga k o e
  have O:aj s.hp k=some Z:=by
   cases q:aj s.hp k with
   |none=>grind
   |some o2=>grind
  have:=ax0.1 D.2 (k,Z) (z7 O);rw[az0]at this;have J:=this.resolve_left λq=>by rw[az0,S9,aD3]at q;omega
  have J:(au9 x k||dq (sh.hp.map (·.1)) k)=true:=J
  rw[az0]at J;obtain⟨o',F⟩:=aB0.1 (h2 k (J.resolve_left λq=>by rw[aw6 q,e]at Y;cases Y))
  obtain⟨o2,U,e5,_⟩:=h1 k o' F;rw[O]at U;cases U;exact⟨o',F,N.trans e5.pl⟩
def sD(s D:aF):Prop:=Gd 0 s D
theorem adz{E:cP}{c:Cx}{h:Hp}{w:World}(hC:Conc E c h w):E.H 0=none:=by
 cases e:E.H 0 with
 |none=>rfl
 |some o=>have:=(hC.ga 0 o e).1;omega
theorem sD.AV{s D:aF}(h:sD s D):fI s D:=λE c w u h1 h2=>h E c _ w u (adz h1) h1 (λ_ _ h=>h) (λk h1 h2=>(h1 h2).elim) h2
theorem tQ{sh:Shape}{s:aF}{v:cm sh}(h:qK sh s=some v):sD s (mkD sh v):=aaf h
end
def sH(f:DC->DC):DS->DS
 |.dead=>.dead
 |.c x=>.c (f x)
 |.agg l=>.agg (l.map f)
 |.eR l=>.eR (l.map λ|.inl x=>.inl (f x) |.inr q=>.inr (q.map f))
 |.fn g a b=>.fn g (a.map f) (b.map f)
def uI(f:DC->DC):aR->aR
 |.var ty l=>.var ty (l.map f)
 |.row hs e t l=>.row hs e t l
 |.bF hs e t b l q=>.bF hs e t b l (q.map f)
theorem aqd(f:DC->DC)(s:cG)(t:Nat):bM (s.map λp=>(p.1,sH f p.2)) t=sH f (bM s t):=by
 induction s with
 |nil=>rfl
 |cons p r D=>
  obtain⟨q,x⟩:=p;show(if q=t then sH f x else bM (r.map _) t)=sH f (if q=t then x else bM r t)
  grind
theorem abH{f:DC->DC}{c c':Cx}{h h':Hp}{w w':World}(hf:∀u x,CR c h w u x->CR c' h' w' u (f x)){u:Value}{d:DS}(hu:SR c h w u d):SR c' h' w' u (sH f d):=by
 cases d with
 |dead=>trivial
 |c x=>exact hf _ _ hu
 |agg l=>obtain⟨vs,e,h1⟩:=hu;exact⟨vs,e,h1.imp hf⟩
 |eR l=>
  obtain⟨vs,e,h1⟩:=hu;refine⟨vs,e,h1.imp λv x D=>?_⟩;cases x with
  |inl x=>exact hf _ _ D
  |inr q=>obtain⟨vs,e,h1⟩:=D;exact⟨vs,e,h1.imp hf⟩
 |fn g a b=>obtain⟨vs,us,e,h1,h2⟩:=hu;exact⟨vs,us,e,h1.imp hf,h2.imp hf⟩
def sw(k:Nat)(f:DC->DC):ax->ax
 |[]=>[]
 |(q,o)::s=>if q=k then sw k f s else(q,uI f o)::sw k f s
theorem Zm(r:Nat)(o:aR)(s:ax)(q:Nat):aj ((r,o)::s) q=if r=q then some o else aj s q:=rfl
theorem zT(k:Nat)(f:DC->DC):∀(s:ax) (q:Nat),aj (sw k f s) q=if q=k then none else(aj s q).map (uI f)
 |[],q=>by simp [sw,aj]
 |(r,o)::s,q=>by
  unfold sw;rw[Zm];by_cases e:r=k
  ·rw[if_pos e,zT k f s q];by_cases D:q=k
   ·grind
   ·grind
  ·rw[if_neg e,Zm];by_cases D:r=q
   ·grind
   ·rw[if_neg D,if_neg D];exact zT k f s q
def free(k:Nat):Bool:=Nat.blt k 1000||Nat.ble 5000 k
theorem aru{k:Nat}(h:free k=true):dw k=false:=by unfold free at h;simp[aD3]at h;exact acx (by omega)
theorem aaP{E:cP}{c:Cx}{h:Hp}{w:World}(hC:Conc E c h w){k:Nat}(hk:free k=true):E.H k=none:=by
 cases D:E.H k with
 |none=>rfl
 |some o=>have:=(hC.ga k o D).1;unfold free at hk;simp[aD3]at hk;omega
theorem Tg(f:DC->DC)(m:Value)(o:aR):PL m o m (uI f o)/\cX (uI f o)=cX o/\bc (uI f o)=bc o:=by cases o<;>exact⟨by first|exact⟨⟨_,rfl⟩,rfl⟩|exact⟨_,rfl,.inl ⟨rfl,rfl⟩⟩,rfl,rfl⟩
theorem Y0{k:Nat}{s:aF}{o:aR}{f:DC->DC}(ho:aj s.hp k=some o)(hk:free k=true)(U:∀t d,f (.v t d)=.v t d)
  (hf:∀(E:cP) c w,Conc E c (aj s.hp) w->∀c' h',c'.m=c.m->(∀b i,c'.A b i<->c.A b i\/dZ (c.m k)=some b)->(∀q o,q≠k->aj s.hp q=some o->∃o',h' q=some o'/\cX o'=cX o/\bc o'=bc o/\(∀ty l,o=.var ty l->∃l',o'=.var ty l'))->∀u x,CR c (aj s.hp) w u x->CR c' h' w u (f x)):
  fI s ⟨s.sl.map λp=>(p.1,sH f p.2),sw k f s.hp⟩:=by
 intro E c w u hC hu;have L:∀u x,CR c (aj s.hp) w u x->CR ⟨c.m,λb i=>c.A b i\/dZ (c.m k)=some b⟩ (aj (sw k f s.hp)) w u (f x):=hf E c w hC _ _ rfl (λ_ _=>Iff.rfl) λq D hq e=>⟨uI f D,by rw[zT,if_neg hq,e];rfl,(Tg f default D).2.1,(Tg f default D).2.2,λty l e=>⟨l.map f,by rw[e];rfl⟩⟩
 refine⟨⟨c.m,λb i=>c.A b i\/dZ (c.m k)=some b⟩,hC.AV (λq o' e=>?_) (λ_ _ h=>.inl h) (λb i h=>h.imp id λh=>⟨k,⟨⟨o,ho⟩,h⟩,by rw[zT,if_pos rfl],aru hk⟩) λq D e=>?_,λt=>by rw[aqd];exact abH L (hu t)⟩
 ·rw[zT]at e;split at e<;>try (cases e;done)
  obtain⟨D,J,N⟩:=Option.map_eq_some_iff.1 e;subst N;have h1:=hC.obj q D J;refine⟨?_,λb hb=>⟨⟨D,J⟩,hb⟩⟩;cases D with
  |var ty l=>obtain⟨b,cs,g1,g2,g3⟩:=h1;exact⟨b,cs,g1,g2,g3.imp L⟩
  |row hs F t l=>
   obtain⟨h0,xs,g1,g2⟩:=h1.row rfl;refine⟨_,_,_,xs,rfl,h0,g1,?_⟩;have:=g2.imp L
   rwa [show(dT (.row hs F t l)).map f=dT (.row hs F t l) from(aE3 λx O=>by obtain⟨t,d,rfl⟩:=uA _ _ O;exact U t d).trans (List.map_id _)]at this
  |bF hs F t b l M=>
   obtain⟨h0,xs,g1,g2⟩:=h1.row rfl;refine⟨_,_,_,xs,rfl,h0,g1,?_⟩;have:=g2.imp L;have Z:(aQ t l).map f=aQ t l:=(aE3 λx O=>by obtain⟨t,d,rfl⟩:=uA _ _ O;exact U t d).trans (List.map_id _)
   cases b with
   |true=>exact this
   |false=>rwa [show(dT (.bF hs F t false l M)).map f=dT (uI f (.bF hs F t false l M)) by show(aQ t l++M).map f=aQ t l++M.map f;rw[aw1,Z]]at this
 ·obtain⟨_,Y,J,N⟩:=hC.ga q D e;have ah:q≠k:=λh=>by subst h;rw[aaP hC hk]at e;cases e
  exact⟨uI f Y,by rw[zT,if_neg ah,J];rfl,N.trans (Tg f _ Y).1⟩
theorem zV{c c':Cx}{h h':Hp}{w:World}{k:Nat}(hm:c'.m=c.m)(hA:∀b i,c.A b i->c'.A b i)(Y:∀q o,q≠k->h q=some o->∃o',h' q=some o'/\cX o'=cX o/\bc o'=bc o/\∀ty l,o=.var ty l->∃M,o'=.var ty M){u:Value}{x:DC}(F:∀g p i,x≠.ow k g p/\x≠.ptr k i)(hu:CR c h w u x):CR c' h' w u x:=by
 have hc:uE c.A w c'.A w:=λb i v h1 h2=>⟨hA _ _ h1,h2⟩;cases x with
 |ow q g p=>
  obtain⟨h1,o,e,n,h2,D⟩:=hu;obtain⟨o',J,N,O,_⟩:=Y q o (λe=>by subst e;exact(F g p 0).1 rfl) e
  exact⟨h1,o',J,n,by unfold cD at h2⊢;rw[N,O];exact h2,by unfold Rw at D⊢;rw[N,O,hm];exact D⟩
 |ptr q i=>
  obtain⟨h1,o,e,⟨ty,l,Z⟩,h2⟩:=hu;obtain⟨o',J,_,_,e4⟩:=Y q o (λe=>by subst e;exact(F 0 .all i).2 rfl) e
  obtain⟨M,e5⟩:=e4 ty l Z;exact⟨h1,o',J,⟨ty,M,e5⟩,by rw[hm];exact h2⟩
 |v t d=>exact⟨hu.1,hu.2.mono hc _ λ_ _ h=>h⟩
 |el t d j=>obtain⟨b,o,h1,h2⟩:=hu;exact⟨b,o,h1,h2.mono hc _ λi v q=>hc _ _ _ q.1 q.2⟩
 |A6 l=>
  obtain⟨b,o,cap,h1,h2,D,h4⟩:=hu;refine⟨b,o,cap,h1,h2,D,λi x F=>?_⟩;obtain⟨v,U,L⟩:=h4 i x F;refine⟨v,hc _ _ _ U.1 U.2,?_⟩;cases x with
  |v t d=>exact⟨L.1,L.2.mono hc _ λ_ _ h=>h⟩
  |nil=>exact L
 |_=>exact hu
def V1(k g:Nat)(t:Ty)(l:List (den t)):DC->DC
 |.ow q D p=>if q=k then(match p,au9 D g with|.all,true=>.v (.sl t) l|_,_=>.dead)else .ow q D p
 |.ptr q i=>if q=k then .dead else .ptr q i
 |x=>x
def adI(k:Nat)(H:ax):Option (Nat×(t:Ty)×List (den t)):=
 match aj H k with
 |some (.row hs _ t l)=>some (hs.length,⟨t,l⟩)
 |some (.bF hs _ t e l last)=>match pI (mo Nx t last)with
  |some x=>some (hs.length,⟨t,cond e [] (l++[x])⟩)
  |none=>none
 |_=>none
def UF(k:Nat)(s:aF):Option aF:=
 match free k,adI k s.hp with
 |true,some (g,⟨t,l⟩)=>some ⟨s.sl.map λp=>(p.1,sH (V1 k g t l) p.2),sw k (V1 k g t l) s.hp⟩
 |_,_=>none
theorem art{k:Nat}{s s':aF}(h:UF k s=some s'):fI s s':=by
 unfold UF at h;split at h<;>try (cases h;done)
 rename_i g t l hk D;cases h
 have key:∃o hs ty,aj s.hp k=some o/\cX o=some (hs,ty,wid t)/\hs.length=g/\bc o=l.length/\∀c h w us,au (CR c h w) us (dT o)->au (CR c h w) us (aQ t l):=by
  unfold adI at D;split at D<;>try (cases D;done)
  ·rename_i J;injection D with D;injection D with L F;injection F with F O;subst L;subst F;obtain rfl:=eq_of_heq O;exact⟨_,_,_,J,rfl,rfl,rfl,λc h w us hu=>hu⟩
  ·rename_i b N last J;split at D<;>try (cases D;done)
   rename_i x hx;injection D with D;injection D with L F;injection F with F O;subst L;subst F;obtain rfl:=eq_of_heq O;refine⟨_,_,_,J,rfl,rfl,by cases b<;>simp [bc],λc h w us hu=>?_⟩
   cases b with
   |true=>exact hu
   |false=>have hu:au (CR c h w) us (aQ _ N++last):=hu;show au _ _ (aQ _ (N++[x]));rw[qp];have ha:=hu.take (aQ _ N).length;have Y:=hu.drop (aQ _ N).length;rw[aB2]at ha;rw[aC2]at Y;rw[<-ax4 (aQ _ N).length us];exact ha.app (by simpa[aQ]using acI hx Y)
 obtain⟨o,hs,ty,J,hr,rfl,hlen,ah⟩:=key;refine Y0 J hk (λ_ _=>rfl) λE c w hC c' h' hm hA Z u x hu=>?_;have U:=λb i q=>(hA b i).2 (.inl q);unfold V1;split
 ·rename_i q g' p;split
  ·rename_i M;subst M;split
   ·rename_i hg;obtain rfl:=aw6 hg;obtain⟨_,o1,L,n,F,ar,az,wd,O,e4⟩:=hu;rw[J]at L;cases L;have:cD o hs.length=some (some (bc o)):=by simp [cD,hr]
    rw[this]at F;cases F;have e5:=(e4 _ rfl).2 rfl;obtain⟨_,xs,g1,g2⟩:=(hC.obj q o J).row hr;rw[hlen]at g1;rw[e5];have an:uE c.A w c'.A w:=λb i v h1 h2=>⟨U _ _ h1,h2⟩;refine Sk (c:=c') (h:=h') g1 (au.of (ah _ _ _ _ g2).len λi u x h1 h2=>?_) λb i Y=>(hA b i).2 (.inr Y);obtain⟨u',f1,f2⟩:=(ah _ _ _ _ g2).get h2;rw[h1]at f1;cases f1;obtain⟨t',d',rfl⟩:=uA _ _ (az6 h2);exact⟨f2.1,f2.2.mono an _ λ_ _ h=>h⟩
   ·exact CR.one hu
  ·rename_i M;exact zV hm U Z (λ_ _ _=>⟨λe=>by injection e with e;exact M e,λe=>by cases e⟩) hu
 ·rename_i q i;split
  ·exact CR.one hu
  ·rename_i M;exact zV hm U Z (λ_ _ _=>⟨λe=>(by grind),λe=>by injection e with e;exact M e⟩) hu
 ·rename_i h1 h2;exact zV hm U Z (λ_ _ _=>⟨h1 _ _ _,h2 _ _⟩) hu
def V0(k:Nat)(t:Ty)(d:den t):DC->DC
 |.ptr q i=>if q=k then(if i=0 then .v (.ptr t) d else .el t d i)else .ptr q i
 |.ow q g p=>if q=k then .dead else .ow q g p
 |x=>x
def UE(k:Nat)(t:Ty)(s:aF):Option aF:=
 match free k,aj s.hp k with
 |true,some (.var D l)=>match qN t l,au9 D iQ with
  |some d,false=>some ⟨s.sl.map λp=>(p.1,sH (V0 k t d) p.2),sw k (V0 k t d) s.hp⟩
  |_,_=>none
 |_,_=>none
theorem ars{k:Nat}{t:Ty}{s U:aF}(h:UE k t s=some U):fI s U:=by
 unfold UE at h;split at h<;>try (cases h;done)
 rename_i ty l hk M;split at h<;>try (cases h;done)
 rename_i d Z h0;cases h;refine Y0 M hk (λ_ _=>rfl) λE c w hC c' h' hm hA J u x hu=>?_;have F:=λb i q=>(hA b i).2 (.inl q);unfold V0;split
 ·rename_i q i;split
  ·rename_i D;subst D;obtain⟨_,o1,e1,_,b,L,rfl⟩:=hu;obtain⟨b',cs,g1,g2,g3⟩:=hC.obj q _ M;rw[ua h0]at g2;rw[L]at g1;injection g1 with g1;injection g1 with g1;cases g1;have Y:uE c.A w c'.A w:=λb i v h1 h2=>⟨F _ _ h1,h2⟩;have N:TR c'.A w t (Fz c'.A w b 0) d:=(CG.tr (c:=c) (h:=aj s.hp) t).1 (CG.of (Ad Z g3) (g:=λi v=>w.cell? ⟨b,0+i,none⟩=some v) λi v O=>by rw[cell_of g2];grind)|>.mono Y _ λi v O=>⟨(hA b _).2 (.inr (L▸rfl)),O⟩
   split
   ·rename_i hi;subst hi;exact⟨rfl,b,0,rfl,N⟩
   ·exact⟨b,0,by rw[ax2],N⟩
  ·rename_i D;exact zV hm F J (λ_ _ _=>⟨λe=>(by grind),λe=>by injection e with e;exact D e⟩) hu
 ·rename_i q g p;split
  ·exact CR.one hu
  ·rename_i D;exact zV hm F J (λ_ _ _=>⟨λe=>by injection e with e;exact D e,λe=>by cases e⟩) hu
 ·rename_i h1 h2;exact zV hm F J (λ_ _ _=>⟨h2 _ _ _,h1 _ _⟩) hu
def Gm:aR->Bool
 |.row [] _ t []=>Nat.blt 0 (wid t)
 |.bF [] _ t true [] _=>Nat.blt 0 (wid t)
 |_=>false
theorem Tr{E:cP}{c:Cx}{h:Hp}{w:World}{k:Nat}{o:aR}(hC:Conc E c h w)(hk:h k=none)(L:dw k=false)(D:Gm o=true)(a:Option Addr):∃c',Conc E c' (bK h k (some o)) w/\eN c h w c' (bK h k (some o)) w/\CR c' (bK h k (some o)) w (.slice a 0 0) (.ow k 0 .all):=by
 have key:∃ty n,cX o=some ([],ty,n)/\0<n/\bc o=0/\dT o=[]:=by unfold Gm at D;split at D<;>first|(cases D;done)|(rw[aD3]at D;exact⟨_,_,rfl,D,rfl,rfl⟩)
 obtain⟨ty,n,h1,h2,F,J⟩:=key;obtain⟨c',g1,g2,g3,_⟩:=hC.setRow (k:=k) h1 h2 (v':=.slice a 0 0) (Ext.refl _ _) (λb q=>by rw[Uq]at q;cases q) (s:=false) (λq=>by cases q) L (λM q=>by rw[hk]at q;cases q) (xs:=[]) (.inl ⟨a,rfl,F,rfl⟩) (J▸.nil)
 grind
def M5(i:Nat):aR->Option DC
 |.var _ l=>l[i]?
 |.bF _ _ _ _ _ q=>q[i]?
 |_=>none
def AY(i:Nat)(x:DC):aR->aR
 |.var ty l=>.var ty (l.set i x)
 |.bF hs e t b l q=>.bF hs e t b l (q.set i x)
 |o=>o
theorem au.set{α β:Type}{R:α->β->Prop}{us:List α}{l:List β}(h:au R us l):∀{i:Nat} {x x':β},l[i]? =some x->(∀u,R u x->R u x')->au R us (l.set i x'):=by
 induction h with
 |nil=>grind
 |cons h t F=>
  intro i x x' e D;cases i with
  |zero=>cases e;exact .cons (D _ h) t
  |succ i=>exact .cons h (F e D)
theorem abv{R:Value->DC->Prop}{i:Nat}{x x':DC}{o:aR}(D:M5 i o=some x)(L:∀u,R u x->R u x'){us:List Value}(hu:au R us (dT o)):au R us (dT (AY i x' o)):=by
 cases o with
 |row=>cases D
 |var ty l=>exact hu.set D L
 |bF hs e t b l q=>
  cases b with
  |true=>exact hu
  |false=>have hu:au R us (aQ t l++q):=hu;have F:=hu.take (aQ t l).length;have J:=hu.drop (aQ t l).length;rw[aB2]at F;rw[aC2]at J;rw[<-ax4 (aQ t l).length us];exact F.app (J.set D L)
theorem Conc.recell{E:cP}{c:Cx}{h:Hp}{w:World}(hC:Conc E c h w){q:Nat}{o o':aR}(D:h q=some o)(M:(∃hs e t b l r J,o=.bF hs e t b l r/\o'=.bF hs e t b l J)\/∃ty l F,o=.var ty l/\o'=.var ty F)(hc:∀us,au (CR c h w) us (dT o)->au (CR c h w) us (dT o')):Conc E c (bK h q (some o')) w/\eN c h w c (bK h q (some o')) w:=by
 refine hC.put q (o':=o') (fh _ _ _) (λj O=>⟨gP O,rfl⟩) rfl (Ext.refl _ _) (λb N=>.inl ⟨⟨o,D⟩,N⟩) (.inr rfl) (s:=false) (λq=>by cases q) (λU e=>?_) λL=>?_
 ·rw[D]at e;cases e;rcases M with⟨hs,e,t,b,l,r,J,rfl,rfl⟩|⟨ty,l,F,rfl,rfl⟩
  ·exact⟨_,rfl,.inl ⟨λ_ _ h=>h,.inl ⟨rfl,rfl⟩⟩⟩
  ·exact⟨⟨_,rfl⟩,rfl⟩
 ·have h1:=hC.obj q o D;rcases M with⟨hs,e,t,b,l,r,J,rfl,rfl⟩|⟨ty,l,F,rfl,rfl⟩
  ·obtain⟨h0,xs,g1,g2⟩:=h1.row rfl;exact⟨_,_,_,xs,rfl,h0,g1,(hc _ g2).mono λ_ _=>CR.fM L⟩
  ·obtain⟨b,cs,g1,g2,g3⟩:=h1;exact⟨b,cs,g1,g2,(hc _ g3).mono λ_ _=>CR.fM L⟩
theorem Y'{i:Nat}{x x':DC}{o:aR}(D:M5 i o=some x):(∃hs e t b l r J,o=.bF hs e t b l r/\AY i x' o=.bF hs e t b l J)\/∃ty l F,o=.var ty l/\AY i x' o=.var ty F:=by
 cases o with
 |row=>cases D
 |var ty l=>exact .inr ⟨_,_,_,rfl,rfl⟩
 |bF=>exact .inl ⟨_,_,_,_,_,_,_,rfl,rfl⟩
def rcC:Sh->DC->DC
 |.v t,x=>match lS t,rq t x with|true,some d=>.v t d|_,_=>x
 |.dead,_=>.dead
 |_,x=>x
def OD:List Sh->List DC->List DC
 |s::r,x::q=>rcC s x::OD r q
 |_,q=>q
theorem acy{c:Cx}{h:Hp}{w:World}:∀(l:List Sh) {q:List DC} {us:List Value},au (CR c h w) us q->au (CR c h w) us (OD l q)
 |[],_,_,hu=>hu
 |s::r,_,_,.nil=>.nil
 |s::r,_,_,.cons h1 D=>.cons (by
  unfold rcC;split
  ·split
   ·exact uk (by omega) (by omega) h1
   ·omega
  ·exact CR.one h1
  ·exact h1) (acy r D)
inductive Gh where
 |aY (k:Nat)
 |dI (q k:Nat) (o:aR)
 |dR (q i k:Nat) (o:aR)
 |xZ (k:Nat) (t:Ty)
 |VX (k:Nat) (l:List Sh)
 |oL (k:Nat) (o:aR)
def B9:Gh->aF->Option aF
 |.aY k,s=>UF k s
 |.xZ k t,s=>UE k t s
 |.oL k o,s=>match mq s.hp k&&Gm o with|true=>some ⟨s.sl,oset s.hp k o⟩|false=>none
 |.dI q k o,s=>match mq s.hp k&&Gm o&&OH (bM s.sl q)with|true=>some ⟨oB s.sl q (.c (.ow k 0 .all)),oset s.hp k o⟩|false=>none
 |.dR q i k o,s=>match mq s.hp k&&Gm o,aj s.hp q with
  |true,some D=>match M5 i D with
   |some .nil=>some ⟨s.sl,oset (oset s.hp k o) q (AY i (.ow k 0 .all) D)⟩
   |_=>none
  |_,_=>none
 |.VX k l,s=>match aj s.hp k with
  |some (.var ty q)=>some ⟨s.sl,oset s.hp k (.var ty (OD l q))⟩
  |_=>none
theorem asj{g:Gh}{s N:aF}(h:B9 g s=some N):fI s N:=by
 cases g with
 |aY k=>exact art h
 |xZ k t=>exact ars h
 |oL k o=>
  simp[B9]at h;split at h<;>try (cases h;done)
  rename_i D;rw[au0]at D;cases h;intro E c w u hC hu;obtain⟨c',g1,g2,_⟩:=Tr hC (o8 D.1) (rY D.1) D.2 none;rw[<-ij]at g1 g2;exact⟨c',g1,λt=>(hu t).fM g2⟩
 |dI q k o=>
  simp[B9]at h;split at h<;>try (cases h;done)
  rename_i D;rw[au0,au0]at D;cases h;intro E c w u hC hu;obtain⟨a,O⟩:=TO D.2 (hu q);obtain⟨c',g1,g2,g3⟩:=Tr hC (o8 D.1.1) (rY D.1.1) D.1.2 a;rw[<-ij]at g1 g2 g3;refine⟨c',g1,λt=>?_⟩;show SR _ _ _ _ (bM (nr s.sl (some q) _) t);rw[Fc];show SR _ _ _ _ (bK _ q _ t);by_cases e:t=q
  ·subst e;rw[fh,O];exact g3
  ·rw[gP e];exact(hu t).fM g2
 |dR q i k o=>
  simp[B9]at h;split at h<;>try (cases h;done)
  rename_i M D F;rw[au0]at D;split at h<;>try (cases h;done)
  rename_i L;cases h;intro E c w u hC hu;obtain⟨c',g1,g2,g3⟩:=Tr hC (o8 D.1) (rY D.1) D.2 none;have U:q≠k:=λe=>by subst e;rw[o8 D.1]at F;grind
  obtain⟨g4,g5⟩:=g1.recell (q:=q) (o:=M) (o':=AY i (.ow k 0 .all) M) ((gP U).trans F) (Y' L) λus J=>abv L (λv Y=>by rw[show v=_ from Y];exact g3) J
  rw[ij,ij];exact⟨c',g4,λt=>((hu t).fM g2).fM g5⟩
 |VX k l=>
  simp[B9]at h;split at h<;>try (cases h;done)
  rename_i ty q F;cases h;intro E c w u hC hu;obtain⟨g4,g5⟩:=hC.recell F (o':=.var ty (OD l q)) (.inr ⟨_,_,_,rfl,rfl⟩) λus J=>acy l J;rw[ij];exact⟨c,g4,λt=>(hu t).fM g5⟩
def vn:List Gh->aF->aF
 |[],s=>s
 |g::r,s=>vn r (match B9 g s with|some D=>D|none=>s)
theorem AE:∀(l:List Gh) (s:aF),fI s (vn l s)
 |[],s=>fI.refl s
 |g::r,s=>by
  unfold vn;split
  ·exact(asj (by omega)).trans (AE r _)
  ·exact AE r _
inductive Un where
 |v (q i:Nat)
 |s (t:Nat)
def No(H:ax):DC->Option (Nat×Nat×DC)
 |.ow k g .all=>match aj H k with
  |some o=>match cX o,cD o g with
   |some (hs,_),some (some n)=>match au9 g hs.length with|true=>none|false=>some (n,bc o,.ow k hs.length .all)
   |_,_=>none
  |none=>none
 |_=>none
theorem abB{H:ax}{x x':DC}{n m:Nat}(h:No H x=some (n,m,x'))(N:n=m){c:Cx}{w:World}{u:Value}(hu:CR c (aj H) w u x):CR c (aj H) w u x':=by
 unfold No at h;split at h<;>try (cases h;done)
 split at h<;>try (cases h;done)
 rename_i o J;split at h<;>try (cases h;done)
 rename_i hs _ Z L O;split at h<;>try (cases h;done)
 simp[Prod.mk.injEq]at h;obtain⟨rfl,rfl,rfl⟩:=h;obtain⟨h1,o1,D,q,F,Y,ah,an,U,M⟩:=hu;rw[J]at D;cases D;rw[O]at F;cases F;exact⟨h1,o,J,some (bc o),by simp [cD,L],_,_,_,L,λm e=>by cases e;exact⟨at9 _,λ_=>(M _ rfl).2 N⟩⟩
def Ux{R:Type}(u:Un)(s:aF)(K:aF->Option R):Option R:=
 match u with
 |.v q i=>match aj s.hp q with
  |some o=>match M5 i o with
   |some x=>match No s.hp x with
    |some (n,m,x')=>J (n=m) (K ⟨s.sl,oset s.hp q (AY i x' o)⟩)
    |none=>K s
   |none=>K s
  |none=>K s
 |.s t=>match bM s.sl t with
  |.c x=>match No s.hp x with
   |some (n,m,x')=>J (n=m) (K ⟨oB s.sl t (.c x'),s.hp⟩)
   |none=>K s
  |_=>K s
theorem aqY{R:Type}{y:R}{u:Un}{s:aF}{K:aF->Option R}(h:Ux u s K=some y):∃J,fI s J/\K J=some y:=by
 unfold Ux at h;split at h
 ·split at h<;>try exact⟨s,fI.refl _,h⟩
  rename_i q i _ o L;split at h<;>try exact⟨s,fI.refl _,h⟩
  rename_i x F;split at h<;>try exact⟨s,fI.refl _,h⟩
  rename_i n m x' D;obtain⟨h1,h2⟩:=il h;refine⟨_,λE c w u hC hu=>?_,h2⟩;obtain⟨g4,g5⟩:=hC.recell L (Y' F) λus N=>abv (x':=x') F (λv O=>abB D h1 O) N;rw[ij];exact⟨c,g4,λt=>(hu t).fM g5⟩
 ·split at h<;>try exact⟨s,fI.refl _,h⟩
  rename_i t _ x M;split at h<;>try exact⟨s,fI.refl _,h⟩
  rename_i n m x' D;obtain⟨h1,h2⟩:=il h;refine⟨⟨oB s.sl t (.c x'),s.hp⟩,λE c w u hC hu=>⟨c,hC,λq=>?_⟩,h2⟩;show SR _ _ _ _ (bM (nr s.sl (some t) _) q);rw[Fc];show SR _ _ _ _ (bK _ t _ q);by_cases e:q=t
  ·subst e;rw[fh];have:=hu q;rw[M]at this;exact abB D h1 this
  ·rw[gP e];grind
def MQ{R:Type}:List Un->aF->(aF->Option R)->Option R
 |[],s,K=>K s
 |u::r,s,K=>Ux u s λD=>MQ r D K
theorem R9{R:Type}{y:R}:∀{l:List Un} {s:aF} {K:aF->Option R},MQ l s K=some y->∃D,fI s D/\K D=some y
 |[],s,K,h=>⟨s,fI.refl _,h⟩
 |u::r,s,K,h=>by obtain⟨s1,F,h1⟩:=aqY h;obtain⟨s2,J,h2⟩:=R9 h1;exact⟨s2,F.trans J,h2⟩
def FU(v:Value):List PanicEntry:=[{v:=v,recovered:=false}]
def cS(w:World)(c:Cx)(h:Hp):cP:=⟨w,c.A,λb=>∃k,dw k=false/\Bl c h k b,λb=>∃k,dw k=true/\Bl c h k b,c.m,λk=>if 1000<=k/\k<3000 then h k else none,[]⟩
theorem cS.own{w:World}{c:Cx}{h:Hp}{k b:Nat}(e:Bl c h k b):afs (cS w c h) k b:=by
 cases q:dw k with
 |true=>exact .inl ⟨q,k,q,e⟩
 |false=>exact .inr ⟨q,.inl ⟨k,q,e⟩⟩
theorem cS.ko{w:World}{c:Cx}{h:Hp}(h1:∀k F b,Bl c h k b->Bl c h F b->k=F)(h2:∀k b i,Bl c h k b->¬c.A b i)(D:∀k b,Bl c h k b->b≠tabB/\b<w.heap.size)(J:TabOk w.heap[tabB]?):acT (cS w c h):=
 ⟨λb i q=>⟨λ⟨k,_,e⟩=>h2 k b i e q,λ⟨k,_,e⟩=>h2 k b i e q⟩,λ⟨k,_,e⟩=>(D k _ e).1 rfl,J,λ⟨k,_,e⟩=>(D k _ e).1 rfl,λb ⟨k,q,e⟩=>⟨λ⟨F,M,L⟩=>(by grind),(D k b e).2⟩⟩
inductive B5 where
 |ret (r:DS) (H1:ax)
 |dx (v:Value) (H1:ax)
def pW(E:cP)(e:Ending)(c:Cx)(w:World):B5->Prop
 |.ret r H1=>∃v,e=.returned v/\Conc E c (aj H1) w/\SR c (aj H1) w v r
 |.dx D H1=>e=.panicked (FU D)/\Conc E c (aj H1) w
def fw(P:Program)(f:FuncId)(args:List DS)(D:ax)(o:B5):Prop:=
 ∀(c:Cx) (w:World) (vals:List Value),Conc (cS w c (aj D)) c (aj D) w->au (SR c (aj D) w) vals args->Calls P f vals.toArray w λe w'=>∃c',pW (cS w c (aj D)) e c' w' o
@[reducible] def Ij:Bool×Shape->Type
 |(false,sh)=>cm sh
 |(true,sh)=>Value×cm sh
@[reducible] def JU:List (Bool×Shape)->Type
 |[]=>Empty
 |a::[]=>Ij a
 |a::r=>Ij a⊕JU r
def xS:DS->Sum DC (List DC)
 |.c x=>.inl x
 |.agg l=>.inr l
 |_=>.inl .dead
def sF:cG->DS
 |[p]=>p.2
 |l=>.eR (l.map λp=>xS p.2)
def Ub:(a:Bool×Shape)->Ij a->B5
 |(false,sh),x=>.ret (sF (mkD sh x).sl) (mkD sh x).hp
 |(true,sh),x=>.dx x.1 (mkD sh x.2).hp
def ni:(l:List (Bool×Shape))->JU l->B5
 |[],x=>nomatch x
 |a::[],x=>Ub a x
 |a::b::r,x=>match x with|.inl x=>Ub a x |.inr x=>ni (b::r) x
def nZ:SS->Bool
 |.fn _ _ _=>false
 |_=>true
def oy(aB:Shape)(outs:List (Bool×Shape)):Bool:=
 AX aB&&aB.hp.all (λp=>Nat.ble 1000 p.1)&&outs.all (λp=>AX p.2&&p.2.sl.all (λq=>nZ q.2))
structure cM(P:Program) where
 f:FuncId
 aB:Shape
 outs:List (Bool×Shape)
 F:(R:Type)->cm aB->(JU outs->Option R)->Option R
 eT:oy aB outs=true
 ok:∀(R:Type) (x:cm aB) (k:JU outs->Option R) (y:R),F R x k=some y->∃o,k o=some y/\fw P f ((mkD aB x).sl.map (·.2)) (mkD aB x).hp (ni outs o)
abbrev Ps:=List (Nat×Nat)
def lk:Ps->Nat->Option Nat
 |[],_=>none
 |(j,k)::r,q=>match au9 j q with|true=>some k|false=>lk r q
def OF(ps:Ps)(j k:Nat):Bool:=match lk ps j with|some q=>au9 q k|none=>false
theorem acA{ps:Ps}{j k:Nat}:OF ps j k=true<->lk ps j=some k:=by
 unfold OF;cases lk ps j with
 |none=>simp
 |some q=>simp
def A5(ps:Ps):Bool:=km (ps.map (·.1))&&km (ps.map (·.2))
theorem nU:∀{l:List Nat} {k:Nat},dq l k=true<->k∈l
 |[],k=>by simp [dq]
 |q::r,k=>by unfold dq;rw[az0,nU,aw2,Nat.beq_eq,eq_comm]
theorem si:∀{ps:Ps} {j k:Nat},lk ps j=some k->(j,k)∈ps
 |(q,r)::ps,j,k,h=>by
  unfold lk at h;split at h
  ·simp_all
  ·exact ax5 _ (si h)
theorem AD:∀{ps:Ps} {j k:Nat},km (ps.map (·.1))=true->(j,k)∈ps->lk ps j=some k
 |(q,r)::ps,j,k,D,h=>by
  simp[km]at D;unfold lk;rcases aw2.1 h with h|h
  ·simp_all
  ·have:au9 q j=false:=by
     cases e:au9 q j with
     |false=>rfl
     |true=>
      obtain rfl:=aw6 e;have:=nU.2 (ax1.2 ⟨_,h,rfl⟩:q∈ps.map (·.1))
      grind
   rw[this];exact AD D.2 h
theorem TN:∀{ps:Ps} {i j k:Nat},km (ps.map (·.2))=true->(i,k)∈ps->(j,k)∈ps->i=j
 |(q,r)::ps,i,j,k,D,h,h'=>by
  simp[km]at D
  have no:∀{i},(i,r)∈ps->False:=λh=>by
   have:=nU.2 (ax1.2 ⟨_,h,rfl⟩:r∈ps.map (·.2))
   grind
  rcases aw2.1 h with h|h<;>rcases aw2.1 h' with h'|h'
  ·grind
  ·grind
  ·grind
  ·exact TN D.2 h h'
def VZ(H:ax)(k:Nat):Nat:=match aj H k with
 |some o=>match cX o with|some (hs,_)=>hs.length+1|none=>0
 |none=>0
def rn(ps:Ps)(H:ax):DC->DC
 |.ow j 0 p=>match lk ps j with|some k=>.ow k (VZ H k) p|none=>.dead
 |.ow _ _ _=>.dead
 |.ptr j i=>match lk ps j with|some k=>.ptr k i|none=>.dead
 |x=>x
def xT(ps:Ps)(H:ax)(hs:List (Option Nat)):aR->aR
 |.var ty l=>.var ty (l.map (rn ps H))
 |.row _ e t l=>.row hs e t l
 |.bF _ e t b l q=>.bF hs e t b l (q.map (rn ps H))
def A8(j k:Nat)(D:aR):Option aR->Option (List (Option Nat))
 |none=>some []
 |some o=>match cX o,cX D with
  |some (hs,ty,wd),some (_,F,J)=>match Nat.blt j 5000 with
   |true=>some (hs++[some (bc o)])
   |false=>match free k&&au9 ty F&&au9 wd J with|true=>some (av5 (hs.length+1) none)|false=>none
  |none,none=>match Nat.blt j 5000 with|true=>some []|false=>none
  |_,_=>none
theorem TS{j k:Nat}{o F:aR}{hs:List (Option Nat)}(h:A8 j k F (some o)=some hs):(j<5000/\((∃h0 ty wd,cX o=some (h0,ty,wd)/\hs=h0++[some (bc o)])\/cX o=none/\hs=[]))\/
  (free k=true/\∃h0 ty wd h1,cX o=some (h0,ty,wd)/\cX F=some (h1,ty,wd)/\hs=av5 (h0.length+1) none):=by
 simp[A8]at h;split at h<;>try (cases h;done)
 ·rename_i J L;split at h
  ·simp_all
  ·split at h<;>try (cases h;done)
   rename_i hf;simp only[au0]at hf;obtain⟨⟨h1,h2⟩,D⟩:=hf;have h2:=aw6 h2;have D:=aw6 D;grind
 ·rename_i J L;split at h<;>try (cases h;done)
  simp_all
theorem asY{j k:Nat}{H:ax}{F:aR}{hs:List (Option Nat)}(h:A8 j k F (aj H k)=some hs):hs.length=VZ H k:=by
 unfold VZ;cases e:aj H k with
 |none=>rw[e]at h;cases h;rfl
 |some o=>rw[e]at h;rcases TS h with⟨_,⟨h0,ty,wd,D,rfl⟩|⟨D,rfl⟩⟩|⟨_,h0,ty,wd,h1,D,_,rfl⟩<;>simp [D]
def js(ps:Ps):Ps:=ps.filter λp=> !dw p.1
theorem SX{ps:Ps}{j k:Nat}:(j,k)∈js ps<->(j,k)∈ps/\dw j=false:=by simp[js]
theorem acp{ps:Ps}(h:km (ps.map (·.2))=true):km ((js ps).map (·.2))=true:=by
 induction ps with
 |nil=>rfl
 |cons p r D=>
  simp[km]at h;unfold js;rw[List.filter_cons];split
  ·simp[km];refine⟨?_,D h.2⟩;cases e:dq ((r.filter λp=> !dw p.1).map (·.2)) p.2 with
   |false=>rfl
   |true=>obtain⟨q,F,J⟩:=ax1.1 (nU.1 e);rw[nU.2 (ax1.2 ⟨q,(List.mem_filter.1 F).1,J⟩)]at h;grind
  ·exact D h.2
def qR(ps:Ps)(H H1:ax):Ps->Option ax
 |[]=>some H
 |(j,k)::r=>match qR ps H H1 r,aj H1 j with
  |some A,some D=>match A8 j k D (aj H k)with|some hs=>some (oset A k (xT ps H hs D))|none=>none
  |_,_=>none
theorem SL{ps:Ps}{H H1:ax}:∀{l:Ps} {A:ax},km (l.map (·.2))=true->qR ps H H1 l=some A->(∀j k,(j,k)∈l->∃D hs,aj H1 j=some D/\A8 j k D (aj H k)=some hs/\aj A k=some (xT ps H hs D))/\∀k,k∉l.map (·.2)->aj A k=aj H k
 |[],A,_,h=>by cases h;grind
 |(j0,Y)::r,A,F,h=>by
  simp[km]at F;unfold qR at h;split at h<;>try (cases h;done)
  rename_i Z D hA ho;split at h<;>try (cases h;done)
  rename_i hs ah;cases h;obtain⟨h1,h2⟩:=SL F.2 hA;have O:∀k,k∈r.map (·.2)->k≠Y:=λk hk e=>by subst e;rw[nU.2 hk]at F;grind
  refine⟨λj k N=>?_,λk hk=>?_⟩
  ·rcases aw2.1 N with e|e
   ·simp_all[ij,fh]
   ·obtain⟨o,U,J,L,M⟩:=h1 j k e;exact⟨o,U,J,L,by rw[ij,gP (O k (ax1.2 ⟨_,e,rfl⟩))];exact M⟩
  ·rw[aF4,aw2,not_or]at hk;rw[ij,gP hk.1];exact h2 k hk.2
def c0(ps:Ps)(c:Cx):Cx:=⟨λj=>match lk ps j with|some k=>c.m k|none=>undef,c.A⟩
section
variable {E:cP} {c:Cx} {h h0:Hp} {w:World} {ps:Ps}
theorem Conc.enter(hC:Conc E c h w)(h1:A5 ps=true)(hk:∀j o',h0 j=some o'->∃k o,lk ps j=some k/\h k=some o/\nG (c0 ps c) h0 w j o'):Conc (cS w (c0 ps c) h0) (c0 ps c) h0 w:=by
 unfold A5 at h1;rw[au0]at h1;have M:∀j b,Bl (c0 ps c) h0 j b->∃k,lk ps j=some k/\Bl c h k b:=λj b ⟨⟨o',e⟩,D⟩=>by obtain⟨k,o,L,N,_⟩:=hk j o' e;exact⟨k,L,⟨o,N⟩,by unfold c0 at D;simp[L]at D;exact D⟩
 have ah:∀j J b,Bl (c0 ps c) h0 j b->Bl (c0 ps c) h0 J b->j=J:=λj J b e F=>by obtain⟨k,U,D⟩:=M j b e;obtain⟨Z,L,N⟩:=M J b F;obtain rfl:=hC.inj k Z b D N;exact TN h1.2 (si U) (si L)
 have O:∀j b i,Bl (c0 ps c) h0 j b->¬c.A b i:=λj b i e F=>by obtain⟨k,_,D⟩:=M j b e;exact hC.kZ k b i D F
 refine⟨λj o' e=>(hk j o' e).choose_spec.choose_spec.2.2,λj J b e F=>?_,λj b i e F=>?_,hC.lt,cS.ko (λj J b e F=>?_) (λj b i e F=>?_) (λj b e=>?_) hC.OB,λ_ _ q=>q,λ_ _ q=>.inl q,λj b e=>cS.own e,Ext.refl _ _,λk o e=>?_⟩
 ·grind
 ·exact O j b i e F
 ·grind
 ·exact O j b i e F
 ·obtain⟨k,_,D⟩:=M j b e;exact⟨λq=>by subst q;exact hC.ac5 D,hC.blt D⟩
 ·have e:(if 1000<=k/\k<3000 then h0 k else none)=some o:=e
  split at e<;>try (cases e;done)
  rename_i Y;exact⟨Y,o,e,(OL.refl false _ _).pl⟩
theorem Conc.back(hC:Conc E c h w)(h1:A5 ps=true)(hk:∀j o',h0 j=some o'->∃k o,lk ps j=some k/\h k=some o/\nM o o'){H H1 A:ax}(b6:Sub H h)(cj:∀j k,lk ps j=some k->∀o,aj H k=some o->∃o',h0 j=some o'/\nM o o')(b8:∀j k,lk ps j=some k->dw j=false->aj H k=none->h k=none)(hW:∀j k,(j,k)∈js ps->dw k=false)(hb:qR (js ps) H H1 (js ps)=some A)
  {c1:Cx} {w':World} (U:Conc (cS w (c0 ps c) h0) c1 (aj H1) w') (cp:∀j D,aj H1 j=some D->∀hs ty wd,cX D=some (hs,ty,wd)->hs=[]) (b7:∀j o',h0 j=some o'->1000<=j):
  ∃c',Conc E c' (bu h (aj A)) w'/\eN c h w c' (bu h (aj A)) w'/\∀u x,CR c1 (aj H1) w' u x->CR c' (bu h (aj A)) w' u (rn (js ps) H x):=by
 unfold A5 at h1;rw[au0]at h1;obtain⟨f1,f2⟩:=SL (acp h1.2) hb;obtain⟨L,b5⟩:∃L,L=js ps:=⟨_,rfl⟩;have ah:∀{j k},(j,k)∈L->(j,k)∈ps/\dw j=false:=λ{j k} e=>SX.1 (b5▸e);rw[<-b5]at hW hb f1 f2⊢
 let c':Cx:=⟨λk=>match L.find? (λp=>p.2==k)with|some p=>c1.m p.1|none=>c.m k,c1.A⟩
 have hm:∀j k,(j,k)∈L->c'.m k=c1.m j:=λj k J=>by
  show(match L.find? (λp=>p.2==k)with|some p=>c1.m p.1|none=>c.m k)=_
  cases e:L.find? (λp=>p.2==k)with
  |none=>have:=List.find?_eq_none.1 e _ J;simp at this
  |some p=>
   have M:p.2=k:=by simpa using List.find?_some e
   obtain⟨p1,p2⟩:=p;subst M;rw[TN h1.2 (ah J).1 (ah (List.mem_of_find?_eq_some e)).1]
 have hn:∀k,k∉L.map (·.2)->c'.m k=c.m k/\bu h (aj A) k=h k:=λk hk=>by
  refine⟨?_,?_⟩
  ·show(match L.find? (λp=>p.2==k)with|some p=>c1.m p.1|none=>c.m k)=_
   rw[List.find?_eq_none.2 λp hp=>by simp;intro e;exact hk (ax1.2 ⟨p,hp,e⟩)]
  ·unfold bu;rw[f2 k hk];cases e:aj H k with
   |none=>rfl
   |some o=>rw[b6 k o e];rfl
 have a8:∀k,k∈L.map (·.2)->∃j,(j,k)∈L:=λk hk=>by obtain⟨⟨j,k'⟩,e,rfl⟩:=ax1.1 hk;grind
 have ho:∀j k,(j,k)∈L->∃D hs,aj H1 j=some D/\A8 j k D (aj H k)=some hs/\bu h (aj A) k=some (xT L H hs D):=λj k J=>by obtain⟨D,hs,N,M,e3⟩:=f1 j k J;exact⟨D,hs,N,M,by unfold bu;rw[e3];rfl⟩
 have hF:∀b,(cS w (c0 ps c) h0).F b->∃j k,(j,k)∈L/\Bl c h k b:=λb ⟨j,hj,⟨o',e⟩,M⟩=>by obtain⟨k,o,e3,e4,_⟩:=hk j o' e;exact⟨j,k,b5▸SX.2 ⟨si e3,hj⟩,⟨o,e4⟩,by unfold c0 at M;simp[e3]at M;exact M⟩
 have bb:∀k b,k∉L.map (·.2)->Bl c h k b->¬(cS w (c0 ps c) h0).F b:=λk b hk hb hf=>by obtain⟨j,k',N,M⟩:=hF b hf;obtain rfl:=hC.inj k k' b hb M;exact hk (ax1.2 ⟨_,N,rfl⟩)
 have ar:∀D hs,cX (xT L H hs D)=(cX D).map (λq=>(hs,q.2))/\bc (xT L H hs D)=bc D:=λD hs=>by cases D<;>exact⟨rfl,rfl⟩
 have cc:∀j k o D,(j,k)∈L->aj H k=some o->j<5000->aj H1 j=some D->PL (c.m k) o (c1.m j) D:=λj k o D J az a7 N=>by
  have an:=AD h1.1 (ah J).1;obtain⟨o',e4,e5⟩:=cj j k an o az;have ck:j<3000:=by have h3:=(ah J).2;have:=b7 j o' e4;exact Nat.lt_of_not_le λq=>by rw[S9.2 ⟨q,a7⟩]at h3;cases h3
  have cg:(c0 ps c).m j=c.m k:=by unfold c0;simp[an]
  obtain⟨_,oq,O,Z⟩:=U.ga j o' (by show(if 1000<=j/\j<3000 then h0 j else none)=some o';rw[if_pos ⟨b7 j o' e4,ck⟩];exact e4)
  rw[N]at O;cases O;exact e5.pl.trans (by rw[<-cg];exact Z)
 have ca:eN c h w c' (bu h (aj A)) w':=by
  refine⟨λk o e=>?_,λb i v N M=>⟨U.le _ _ N,U.ext.cell (λhf=>?_) M⟩⟩
  ·by_cases Y:k∈L.map (·.2)
   ·obtain⟨j,J⟩:=a8 k Y;obtain⟨D,hs,N,M,e3⟩:=ho j k J;have an:=AD h1.1 (ah J).1
    have az:aj H k=some o:=by
     cases eH:aj H k with
     |none=>rw[b8 j k an (ah J).2 eH]at e;cases e
     |some o2=>rw[b6 k o2 eH]at e;exact e
    refine⟨_,e3,?_⟩;rw[az]at M;rw[hm j k J];rcases TS M with⟨a7,hq⟩|⟨_,a6,ty,wd,cx,hr,cd,rfl⟩
    ·have hp:=cc j k o D J az a7 N;unfold PL at hp;unfold OL;rcases hq with⟨a6,ty,wd,hr,rfl⟩|⟨hr,rfl⟩
     ·rw[hr]at hp⊢;obtain⟨c4,q3,q4⟩:=hp;exact⟨a6++[some (bc o)],by rw[(ar _ _).1,q3];rfl,.inl ⟨λg n q=>Z3 hr (by rw[(ar _ _).1,q3];rfl) rfl q,by rw[(ar _ _).2];exact q4⟩⟩
     ·rw[hr]at hp⊢;cases o with
      |var ty l=>obtain⟨⟨l2,rfl⟩,q4⟩:=hp;exact⟨⟨_,rfl⟩,q4⟩
      |_=>cases hr
    ·unfold OL;rw[hr];refine⟨av5 (a6.length+1) none,by rw[(ar _ _).1,cd];rfl,.inr ⟨rfl,λg n q=>?_⟩⟩
     unfold cD at q⊢;rw[hr]at q;have hg:=(ay9.1 q).1;rw[au5]at hg;have hg:g<a6.length+1:=hg;rw[(ar _ _).1,cd];show(av5 (a6.length+1) none++[_])[g]? =some none;rw[aD9 (by grind),List.getElem?_replicate,if_pos hg]
   ·obtain⟨N,M⟩:=hn k Y;exact⟨o,by rw[M];exact e,by rw[N];exact OL.refl _ _ _⟩
  ·obtain⟨j,k,_,aE⟩:=hF b hf;exact hC.kZ k b i aE N
 have bp:∀u x,CR c1 (aj H1) w' u x->CR c' (bu h (aj A)) w' u (rn L H x):=by
  intro u x hu;unfold rn;split
  ·rename_i j p;split
   ·rename_i k an;obtain⟨b3,D,N,n,M,c3,ty,wd,e3,e4⟩:=hu;have J:=si an;obtain⟨cw,hs,g1,g2,g3⟩:=ho j k J;rw[N]at g1;cases g1;obtain rfl:=cp j D N _ _ _ e3;have e5:cD D 0=some (some (bc D)):=by simp [cD,e3]
    rw[e5]at M;cases M;have ch:=asY g2;refine⟨b3,_,g3,some (bc D),by rw[<-ch];simp [cD,(ar _ _).1,(ar _ _).2,e3],hs,ty,wd,by rw[(ar _ _).1,e3];rfl,λm b0=>?_⟩
    injection b0 with b0;subst b0;rw[(ar _ _).2,hm j k J];exact e4 _ rfl
   ·exact CR.one hu
  ·exact CR.one hu
  ·rename_i j i;split
   ·rename_i k an;obtain⟨b3,D,N,⟨ty,l,rfl⟩,M⟩:=hu;obtain⟨cw,hs,g1,g2,g3⟩:=ho j k (si an);rw[N]at g1;cases g1;exact⟨b3,_,g3,⟨_,_,rfl⟩,by rw[hm j k (si an)];exact M⟩
   ·exact CR.one hu
  ·rename_i O Z q3;cases x with
   |ow j g p=>cases g with
    |zero=>exact(O _ _ rfl).elim
    |succ g=>exact(Z _ _ _ rfl).elim
   |ptr j i=>exact(q3 _ _ rfl).elim
   |_=>exact hu
 have aE:∀k b,Bl c' (bu h (aj A)) k b->(k∉L.map (·.2)/\Bl c h k b)\/∃j,(j,k)∈L/\Bl c1 (aj H1) j b:=λk b ⟨⟨o,N⟩,M⟩=>by
  by_cases Y:k∈L.map (·.2)
  ·obtain⟨j,J⟩:=a8 k Y;obtain⟨D,hs,g1,_⟩:=ho j k J;exact .inr ⟨j,J,⟨D,g1⟩,by rw[<-hm j k J];exact M⟩
  ·obtain⟨g1,g2⟩:=hn k Y;exact .inl ⟨Y,⟨o,by rw[<-g2];exact N⟩,by rw[<-g1];exact M⟩
 have b4:∀{j k} b,(j,k)∈L->Bl c1 (aj H1) j b->(cS w (c0 ps c) h0).F b\/w.heap.size<=b:=λb hj e=>U.fr (ah hj).2 e;have bx:∀b,(cS w (c0 ps c) h0).F b->E.F b\/E.w.heap.size<=b:=λb e=>by obtain⟨j,k,N,M⟩:=hF b e;exact hC.fr (hW j k N) M
 refine⟨c',⟨λk o e=>?_,λk k' b e e'=>?_,λk b i e e'=>?_,U.lt,hC.ko,λb i e=>U.le b i (hC.le b i e),λb i e=>?_,λk b e=>?_,hC.ext.trans U.ext λb e M=>?_,λk o e=>?_⟩,ca,bp⟩
 ·by_cases Y:k∈L.map (·.2)
  ·obtain⟨j,J⟩:=a8 k Y;obtain⟨D,hs,g1,g2,g3⟩:=ho j k J;rw[g3]at e;cases e;have h5:=U.obj j D g1;have flat:∀{t:Ty} {l:List (den t)},(aQ t l).map (rn L H)=aQ t l:=(aE3 λx hx=>by obtain⟨t,d,rfl⟩:=uA _ _ hx;rfl).trans (List.map_id _)
   cases D with
   |var ty l=>obtain⟨b,cs,O,Z,q3⟩:=h5;exact⟨b,cs,(hm j k J).trans O,Z,q3.imp bp⟩
   |row _ e t l=>
    obtain⟨q0,xs,O,Z⟩:=h5.row rfl;have:=Z.imp bp;rw[show(dT (.row _ e t l)).map (rn L H)=dT (xT L H hs (.row _ e t l)) from flat]at this
    exact⟨_,_,_,xs,rfl,q0,by rw[hm j k J];exact O,this⟩
   |bF _ e t b l q=>
    obtain⟨q0,xs,O,Z⟩:=h5.row rfl;have:=Z.imp bp
    rw[show(dT (.bF _ e t b l q)).map (rn L H)=dT (xT L H hs (.bF _ e t b l q)) from by
     cases b with
     |true=>rfl
     |false=>show(aQ t l++q).map _=aQ t l++q.map _;rw[aw1,flat]]at this
    exact⟨_,_,_,xs,rfl,q0,by rw[hm j k J];exact O,this⟩
  ·obtain⟨g1,g2⟩:=hn k Y;rw[g2]at e;have h5:=hC.obj k o e;exact h5.imp (λ_ _=>CR.fM ca) g1 λb hb=>U.ext.block b (h5.lt hb) (bb k b Y ⟨⟨o,e⟩,hb⟩)
 ·rcases aE k b e with⟨a1,a2⟩|⟨j,a1,a2⟩<;>rcases aE k' b e' with⟨b1,b2⟩|⟨j',b1,b2⟩
  ·exact hC.inj k k' b a2 b2
  ·rcases b4 b b1 b2 with q|q
   ·exact(bb k b a1 a2 q).elim
   ·have:=hC.blt a2;omega
  ·rcases b4 b a1 a2 with q|q
   ·exact(bb k' b b1 b2 q).elim
   ·have:=hC.blt b2;omega
  ·obtain rfl:=U.inj j j' b a2 b2;have N:=AD h1.1 (ah a1).1;rw[AD h1.1 (ah b1).1]at N;injection N with N;exact N.symm
 ·rcases aE k b e with⟨a1,a2⟩|⟨j,a1,a2⟩
  ·rcases U.new b i e' with q|q|q
   ·exact hC.kZ k b i a2 q
   ·have:=hC.blt a2;have q:w.heap.size<=b:=q;omega
   ·exact bb k b a1 a2 q
  ·exact U.kZ j b i a2 e'
 ·rcases U.new b i e with q|q|q
  ·exact hC.new b i q
  ·exact .inr (.inl (aw8 hC.ext.size q))
  ·exact .inr (bx b q).symm
 ·rcases aE k b e with⟨a1,a2⟩|⟨j,a1,a2⟩
  ·exact hC.own k b a2
  ·refine .inr ⟨hW j k a1,?_⟩;rcases b4 b a1 a2 with q|q
   ·exact bx b q
   ·exact .inr (aw8 hC.ext.size q)
 ·rcases bx b M with q|q
  ·exact q
  ·omega
 ·obtain⟨hr,D,O,Z⟩:=hC.ga k o e;refine⟨hr,?_⟩;by_cases Y:k∈L.map (·.2)
  ·obtain⟨j,J⟩:=a8 k Y;obtain⟨o3,hs,g1,g2,g3⟩:=ho j k J
   have az:aj H k=some D:=by
    cases eH:aj H k with
    |none=>rw[b8 j k (AD h1.1 (ah J).1) (ah J).2 eH]at O;cases O
    |some o2=>rw[b6 k o2 eH]at O;exact O
   rw[az]at g2;rcases TS g2 with⟨a7,hq⟩|⟨hf,_⟩
   ·have hp:=cc j k D o3 J az a7 g1;refine⟨_,g3,Z.trans (hp.trans ?_)⟩;rw[hm j k J];unfold PL;cases o3 with
    |var ty l=>exact⟨⟨_,rfl⟩,rfl⟩
    |_=>exact⟨_,rfl,.inl ⟨rfl,rfl⟩⟩
   ·rw[aaP hC hf]at e;cases e
  ·obtain⟨g1,g2⟩:=hn k Y;exact⟨D,by rw[g2];exact O,by rw[g1];exact Z⟩
end
def OI(P:Program)(f:FuncId):Bool:=
 match P.funcs[f]? with
 |some fn=>fn.name != "runtime.NumGoroutine" &&fn.body.isSome
 |none=>false
theorem aj6{P:Program}{f:FuncId}(h:OI P f=true)(args:Array Value)(w:World):(callFunc f args).run P w=.ok (.enter f args) w:=by
 unfold OI at h;split at h
 ·rename_i fn hf;simp[bne_iff_ne]at h;obtain⟨h1,h2⟩:=h;cases D:fn.body with
  |none=>grind
  |some b=>simp [callFunc,hf,h1,D]
 ·grind
def Nv(s:cG)(y:Operand):Option (FuncId×List DC×List DC):=
 match bq s y with
 |some (.fn (.func f) a b)=>some (f,a,b)
 |some (.c (.mH f))=>some (f,[],[])
 |_=>none
def ON(s:cG):List Operand->Option (List DS)
 |[]=>some []
 |x::r=>match bq s x,ON s r with|some v,some l=>some (v::l)|_,_=>none
def M8(s:cG)(a:List DC)(xs:List Operand)(b:List DC):Option (List DS):=
 match ON s xs with|some l=>some (a.map .c++l++b.map .c)|none=>none
section
variable {P:Program} {c:Cx} {h:Hp} {w:World} {E:cP} {H:ax} {σ:cG} {dst:Option Tmp} {ty0:TypeId} {pos:String} {af:Array Edge} {g:Option (Nat×Bool)} {v:DS}
theorem abf{f:FuncId}{y:Operand}{xs:List Operand}{a b:List DC}{l:List DS}{ats:Array TypeId}{e:Operand->Value}(hG:OI P f=true)(D:Nv σ y=some (f,a,b))(J:M8 σ a xs b=some l)
  (N:∀x∈(Op.call {callee:=.value y,args:=xs.toArray,argTypes:=ats}).operands,∀d,bq σ x=some d->SR c h w (e x) d):∃vals:List Value,(execOp e ⟨dst,.call {callee:=.value y,args:=xs.toArray,argTypes:=ats},ty0,pos,af,g⟩).run P w=.ok (.enter f vals.toArray) w/\au (SR c h w) vals l:=by
 have hf:∃vs us:List Value,e y=.func (.func f) vs.toArray us.toArray/\au (CR c h w) vs a/\au (CR c h w) us b:=by
  unfold Nv at D;split at D<;>try (cases D;done)
  ·rename_i L;injection D with D;injection D with h1 h2;injection h2 with h2 M;subst h1;subst h2;subst M;exact N y (by simp [au7,Call.operands]) _ L
  ·rename_i L;injection D with D;injection D with h1 h2;injection h2 with h2 M;subst h1;subst h2;subst M;exact⟨[],[],N y (by simp [au7,Call.operands]) _ L,.nil,.nil⟩
 obtain⟨vs,us,U,h1,h2⟩:=hf;refine⟨vs++xs.map e++us,by simp [execOp,resolve,Deferred.ofValue,invoke,U,aj6 hG],?_⟩
 have Y:∀{xs:List Operand} {q:List DS},ON σ xs=some q->(∀x∈xs,∀d,bq σ x=some d->SR c h w (e x) d)->au (SR c h w) (xs.map e) q:=by
  intro xs
  induction xs with
  |nil=>intro q F _;cases F;exact .nil
  |cons x r ih=>
   intro q F O;unfold ON at F;split at F<;>try (cases F;done)
   rename_i L J;cases F;exact .cons (O x aw4 _ L) (ih J λz hz=>O z (ax5 _ hz))
 unfold M8 at J;split at J<;>try (cases J;done)
 rename_i q F;cases J;exact((h1.imp (R':=SR c h w) (f:=.c) λ_ _ q=>q).app (Y F λx Z=>N x (by simp [au7,Call.operands,Z]))).app (h2.imp (R':=SR c h w) (f:=.c) λ_ _ q=>q)
end
def uK:Nat->List DS->cG
 |_,[]=>[]
 |k,x::r=>(k,x)::uK (k+1) r
theorem abj:∀{l:List DS} {k i:Nat} {d:DS},l[i]? =some d->bM (uK k l) (k+i)=d
 |x::r,k,0,d,h=>by cases h;exact if_pos rfl
 |x::r,k,i+1,d,h=>by
  show(if k=k+(i+1)then x else bM (uK (k+1) r) (k+(i+1)))=d
  rw[if_neg (by simp),show k+(i+1)=k+1+i by omega]
  exact abj (l:=r) h
def oo(k:Nat):List (Nat×SS)->Bool
 |[]=>true
 |p::r=>au9 p.1 k&&oo (k+1) r
theorem mkSl_keys{X:Type}:(l:List (Nat×SS))->(v:pZ X l)->(mkSl l v).1.map (·.1)=l.map (·.1)
 |[],_=>rfl
 |p::r,v=>by show p.1::(mkSl r (mkS p.2 v).2).1.map (·.1)=_;rw[mkSl_keys r];rfl
theorem Su:∀{q:List (Nat×SS)} {l:cG} {k i:Nat} {p:Nat×DS},oo k q=true->l.map (·.1)=q.map (·.1)->l[i]? =some p->bM l (k+i)=p.2
 |[],l,k,i,p,_,e,h=>by have:l=[]:=List.map_eq_nil_iff.1 e;grind
 |a::q,[],k,i,p,_,e,h=>nomatch e
 |a::q,(x,d)::l,k,i,p,hk,e,h=>by
  unfold oo at hk;rw[au0]at hk;have h1:=aw6 hk.1;simp[List.cons.injEq]at e;have D:x=k:=by rw[e.1,h1]
  subst D;cases i with
  |zero=>cases h;exact if_pos rfl
  |succ i=>
   show(if x=x+(i+1)then d else bM l (x+(i+1)))=_
   rw[if_neg (by simp),show x+(i+1)=x+1+i by omega]
   exact Su hk.2 e.2 h
def sK(H:ax):Nat->(t:Ty)->DC->Option (den t)
 |0,t,c=>rq t c
 |n+1,.sl t,c=>match c with
  |.ow k g .all=>match rowAt H k g with
   |some (.row _ _ D l)=>match nn D t with|some h=>some (h.down▸l:List (den t))|none=>none
   |some (.bF _ _ D e l last)=>match nn D t,pI (mo (sK H n) D last)with|some h,some x=>some (h.down▸cond e [] (l++[x]):List (den t))|_,_=>none
   |_=>none
  |c=>rq (.sl t) c
 |n+1,.ptr t,c=>match c with
  |.ptr k 0=>match aj H k with
   |some (.var F q)=>match au9 F iQ with|false=>pI (mo (sK H n) t q)|true=>none
   |_=>none
  |c=>rq (.ptr t) c
 |n+1,t,c=>rq t c
def cb(c:Cx)(h:Hp):Cx:=⟨λ_=>undef,λb i=>c.A b i\/∃k,Bl c h k b⟩
abbrev fq:Hp:=aj []
theorem acb{E:cP}{c:Cx}{h:Hp}{w:World}(hC:Conc E c h w){H:ax}(hs:Sub H h):∀(n:Nat) (t:Ty) (x:DC) (d:den t) (u:Value),lS t=true->sK H n t x=some d->CR c h w u x->CR (cb c h) fq w u (.v t d):=by
 have Y:uE c.A w (cb c h).A w:=λb i v h1 h2=>⟨.inl h1,h2⟩;have up:∀{t:Ty} {d:den t} {u:Value},CR c h w u (.v t d)->CR (cb c h) fq w u (.v t d):=λhu=>⟨hu.1,hu.2.mono Y _ λ_ _ q=>q⟩;have fl:∀{t:Ty} {l:List (den t)} {us:List Value},au (CR c h w) us (aQ t l)->au (CR (cb c h) fq w) us (aQ t l):=λ{t l us} hu=>au.of hu.len λi u x h1 h2=>by obtain⟨u',N,e2⟩:=hu.get h2;rw[h1]at N;cases N;obtain⟨t',d',rfl⟩:=uA _ _ (az6 h2);grind
 have row:∀{k g:Nat} {o:aR} {t:Ty} {l:List (den t)} {u:Value},rowAt H k g=some o->CR c h w u (.ow k g .all)->(∃hs ty,cX o=some (hs,ty,wid t))->bc o=l.length->(∀us,au (CR c h w) us (dT o)->au (CR (cb c h) fq w) us (aQ t l))->CR (cb c h) fq w u (.v (.sl t) l):=by
  intro k g o t l u F hu ⟨ah,ty,hr⟩ hl hc;obtain⟨_,_,_,_,hm⟩:=iO (w:=w) hs F hu;have hk:=hs _ _ (jT F).1;obtain⟨_,xs,g1,g2⟩:=(hC.obj k o hk).row hr;rw[show u=c.m k from hm]
  rw[hl]at g1;exact Sk g1 (hc _ g2) λb i D=>.inr ⟨k,⟨o,hk⟩,D⟩
 intro n
 induction n with
 |zero=>intro t x d u J D hu;exact up (uk J D hu)
 |succ n ih=>
  intro t x d u J D hu;have jn:∀{t:Ty} {q:List DC} {d:den t} {us:List Value},pI (mo (sK H n) t q)=some d->au (CR c h w) us q->au (CR (cb c h) fq w) us (cA t d):=λ{t q d us} Z hu=>by obtain⟨l1,e,h3⟩:=Fv (Q:=CR c h w) (Q':=CR (cb c h) fq w) (λt x d v J L U=>ih t x d v J L U) t (Fa Z);grind
  cases t with
  |sl t=>
   unfold sK at D;split at D
   ·split at D<;>try (cases D;done)
    ·rename_i F;split at D<;>try (cases D;done)
     rename_i e _;obtain⟨e⟩:=e;subst e;cases D;exact row F hu ⟨_,_,rfl⟩ rfl λus q=>fl q
    ·rename_i M l last F;split at D<;>try (cases D;done)
     rename_i e x' _ L;obtain⟨e⟩:=e;subst e;cases D;refine row F hu ⟨_,_,rfl⟩ (by cases M<;>simp [bc]) λus q=>?_
     cases M with
     |true=>have q:=q;cases q;exact .nil
     |false=>have q:au (CR c h w) us (aQ _ l++last):=q;show au _ _ (aQ _ (l++[x']));rw[qp];have O:=q.take (aQ _ l).length;have D:=q.drop (aQ _ l).length;rw[aB2]at O;rw[aC2]at D;rw[<-ax4 (aQ _ l).length us];exact(fl O).app (by simpa[aQ]using jn L D)
   ·exact up (uk J D hu)
  |ptr t=>
   unfold sK at D;split at D
   ·split at D<;>try (cases D;done)
    rename_i k _ ty q F;split at D<;>try (cases D;done)
    rename_i h0;obtain⟨b,hm,rfl⟩:=Aw (w:=w) hs F hu;obtain⟨b',cs,g1,g2,g3⟩:=hC.obj k _ (hs _ _ F);rw[ua h0]at g2;rw[hm]at g1;injection g1 with g1;injection g1 with g1;cases g1;refine⟨rfl,b,0,rfl,(CG.tr (c:=cb c h) (h:=fq) t).1 (CG.of (jn D g3) λi v U=>⟨.inr ⟨k,⟨_,hs _ _ F⟩,by rw[hm];rfl⟩,?_⟩)⟩
    rw[cell_of g2];grind
   ·exact up (uk J D hu)
  |pair=>cases J
  |unit=>cases J
  |_=>exact up (uk J D hu)
def Ny(H:ax):PC:=λX s c x=>match s with
 |.v t=>match lS t with
  |true=>match sK H 3 t c with|some q=>some (q,x)|none=>none
  |false=>none
 |s=>uu (λ_ _=>false) H X s c x
def kP:Ty->Bool
 |.int _=>true
 |.bool=>true
 |.str=>true
 |.gK _=>true
 |.val=>true
 |.unit=>true
 |.pair a b=>kP a&&kP b
 |_=>false
def TU:Sh->Bool
 |.v t=>kP t
 |.kb _=>true
 |_=>false
def acF:SS->Bool
 |.c x=>TU x
 |.st t=>kP t
 |.agg l=>l.all TU
 |_=>false
def asZ(l:List (Bool×Shape)):Bool:=l.all λp=>p.2.sl.all λq=>acF q.2
def asN(l:List (Bool×Shape)):Bool:=l.all λp=>p.2.hp.isEmpty
def inL(l:List Nat)(d:Option Tmp):Bool:=match d with|some d=>dq l d|none=>true
def B7(l:List Nat)(d:Option Tmp):Bool:=match d with|some d=>dq l d|none=>false
def Gi:List (Nat×Ps)->Option Tmp->Ps
 |[],_=>[]
 |(q,ps)::r,d=>match au9 q (d.getD 1000000)with|true=>ps|false=>Gi r d
section
variable {R:Type}
def Gk:(l:List (Bool×Shape))->JU l->((sh:Shape)->cm sh->Option R)->(Value->(sh:Shape)->cm sh->Option R)->Option R
 |[],_,_,_=>none
 |(false,sh)::[],o,K,KP=>K sh o
 |(true,sh)::[],o,K,KP=>KP o.1 sh o.2
 |(false,sh)::b::r,o,K,KP=>match o with
  |.inl v=>K sh v
  |.inr v=>Gk (b::r) v K KP
 |(true,sh)::b::r,o,K,KP=>match o with
  |.inl v=>KP v.1 sh v.2
  |.inr v=>Gk (b::r) v K KP
theorem Le{y:R}{K:(sh:Shape)->cm sh->Option R}{KP:Value->(sh:Shape)->cm sh->Option R}:∀{l:List (Bool×Shape)} {o:JU l},Gk l o K KP=some y->
  (∃sh v,(false,sh)∈l/\ni l o=.ret (sF (mkD sh v).sl) (mkD sh v).hp/\K sh v=some y)\/(∃sh F v,(true,sh)∈l/\ni l o=.dx F (mkD sh v).hp/\KP F sh v=some y)
 |[],o,h=>nomatch o
 |(false,sh)::[],o,h=>.inl ⟨sh,o,aw4,rfl,h⟩
 |(true,sh)::[],o,h=>.inr ⟨sh,o.1,o.2,aw4,rfl,h⟩
 |(false,sh)::b::r,o,h=>by
  cases o with
  |inl v=>exact .inl ⟨sh,v,aw4,rfl,h⟩
  |inr v=>exact(Le (l:=b::r) h).imp (λ⟨sh,v,h1,h2,D⟩=>⟨sh,v,ax5 _ h1,h2,D⟩) λ⟨sh,F,v,h1,h2,D⟩=>⟨sh,F,v,ax5 _ h1,h2,D⟩
 |(true,sh)::b::r,o,h=>by
  cases o with
  |inl v=>exact .inr ⟨sh,v.1,v.2,aw4,rfl,h⟩
  |inr v=>exact(Le (l:=b::r) h).imp (λ⟨sh,v,h1,h2,D⟩=>⟨sh,v,ax5 _ h1,h2,D⟩) λ⟨sh,F,v,h1,h2,D⟩=>⟨sh,F,v,ax5 _ h1,h2,D⟩
def Ua(rd:Bool)(ps:Ps)(aB:Shape)(l:List DS)(H:ax):Option (cm aB):=
 match au9 aB.sl.length l.length&&oo 0 aB.sl with
 |true=>match rd,aB with
  |true,⟨sl,[]⟩=>Ax (Ny H) (λt l=>pI (mo (sK H 3) t l)) (uK 0 l) sl ()
  |true,_=>none
  |false,aB=>proj (OF ps) (λj=>(lk ps j).bind (aj H)) aB ⟨uK 0 l,H⟩
 |false=>none
def qQ(ps:Ps)(H H1:ax)(K:ax->Option R):Option R:=match qR (js ps) H H1 (js ps)with|some A=>K A|none=>none
def mw(P:Program)(f:FuncId)(l:List DS)(ow rd:Bool)(ps:Ps)(H:ax)(K:DS->ax->Option R)(KP:Value->ax->Option R):List (cM P)->Option R
 |[]=>none
 |g::r=>match au9 g.f f&&(ow||(g.aB.hp.isEmpty&&asN g.outs))with
  |false=>mw P f l ow rd ps H K KP r
  |true=>match Ua (rd&& !ow) ps g.aB l H with
   |none=>mw P f l ow rd ps H K KP r
   |some x=>only (OI P f&&A5 ps&&(ps.all λp=>mq H p.2||dq (g.aB.hp.map (·.1)) p.1)&&(js ps).all λp=> !dw p.2) (match rd&& !ow with
    |true=>only (asZ g.outs) (g.F R x λo=>Gk g.outs o (λsh v=>K (sF (mkD sh v).sl) H) λ_ _ _=>none)
    |false=>g.F R x λo=>Gk g.outs o (λsh v=>qQ ps H (mkD sh v).hp (K (sH (rn (js ps) H) (sF (mkD sh v).sl)))) λD sh v=>qQ ps H (mkD sh v).hp (KP D))
end
def Ie(P:Program)(o:Oper)(σ:cG)(H:ax)(D:Value)(H':ax):Prop:=
 ∀(E:cP) (c:Cx) (h:Hp) (w:World) (a:Act) (N:Act->World->Prop) (Q:Exit->Act->World->Prop),Conc E c h w->Sub H h->(∀k,aj H k=none->aj H' k≠none->h k=none)->(∀x∈o.op.operands,∀d,bq σ x=some d->SR c h w (a.eval x) d)->
  (∀w' c',Conc E c' (bu h (aj H')) w'->eN c h w c' (bu h (aj H')) w'->Q (.panic (FU D)) a w')->o.wp P a w N Q
theorem mkH_mem{X:Type}:∀{l:List (Nat×SO)} {v:VH X l} {k:Nat} {o:aR},(k,o)∈(mkH l v).1->k∈l.map (·.1)/\∀hs ty wd,cX o=some (hs,ty,wd)->hs=[]
 |[],v,k,o,h=>by cases h
 |p::r,v,k,o,h=>by
  have h:=h;rcases aw2.1 h with h|h
  ·injection h with h1 h2;subst h1;subst h2;obtain⟨q,s⟩:=p;refine⟨aw4,λhs ty wd e=>?_⟩;cases s<;>first|(cases e;done)|(injection e with e;injection e with e;exact e.symm)
  ·obtain⟨h1,h2⟩:=mkH_mem h;grind
def B'(x:DC):Prop:=(∃b,x=.kb b)\/∃t d,x=.v t d/\kP t=true
def HM:DS->Prop
 |.c x=>B' x
 |.agg l=>∀x∈l,B' x
 |_=>False
section
variable {c c':Cx} {h h':Hp} {w w':World}
theorem TV{u:Value}{x:DC}(F:B' x)(hu:CR c h w u x):CR c' h' w' u x:=by
 rcases F with⟨b,rfl⟩|⟨t,d,rfl,D⟩
 ·exact hu
 ·refine⟨hu.1,?_⟩;have h2:=hu.2;have h1:=hu.1;cases t<;>first|exact h2|(cases D;done)|(cases h1;done)
theorem acH{us:List Value}{l:List DC}(J:∀x∈l,B' x)(hu:au (CR c h w) us l):au (CR c' h' w') us l:=au.of hu.len λi u x h1 h2=>by obtain⟨L,D,F⟩:=hu.get h2;rw[h1]at D;cases D;exact TV (J _ (az6 h2)) F
theorem asm{u:Value}{x:DS}(D:HM x)(hu:SR c h w u x):SR c' h' w' u x:=by
 cases x with
 |c x=>exact TV D hu
 |agg l=>obtain⟨vs,e,h1⟩:=hu;exact⟨vs,e,acH D h1⟩
 |_=>exact D.elim
theorem asl{u:Value}{x:DS}(D:HM x)(hu:UR c h w u (xS x)):UR c' h' w' u (xS x):=by
 cases x with
 |c x=>exact TV D hu
 |agg l=>obtain⟨vs,e,h1⟩:=hu;exact⟨vs,e,acH D h1⟩
 |_=>exact D.elim
theorem asn{u:Value}{l:cG}(D:∀p∈l,HM p.2)(hu:SR c h w u (sF l)):SR c' h' w' u (sF l):=by
 have eR:∀{q:cG},(∀p∈q,HM p.2)->SR c h w u (.eR (q.map λp=>xS p.2))->SR c' h' w' u (.eR (q.map λp=>xS p.2)):=λ{q} N ⟨vs,e,h1⟩=>⟨vs,e,au.of h1.len λi v x h2 F=>by obtain⟨v',J,L⟩:=h1.get F;rw[h2]at J;cases J;rw[aI0,Option.map_eq_some_iff]at F;obtain⟨p,M,rfl⟩:=F;exact asl (N p (az6 M)) L⟩
 match l,D,hu with
 |[],D,hu=>exact eR D hu
 |[p],D,hu=>exact asm (D p aw4) hu
 |p::q::r,D,hu=>exact eR D hu
end
theorem Sy:∀{t:Ty} {d:den t},kP t=true->∀x∈cA t d,B' x
 |.pair a b,d,h,x,D=>by
  have h:(kP a&&kP b)=true:=h;rw[au0]at h;have D:=D;rcases av3.1 D with D|D
  ·exact Sy h.1 x D
  ·exact Sy h.2 x D
 |.unit,_,_,x,D=>by cases D
 |.int k,_,_,x,D=>by rw[aw0.1 D];exact .inr ⟨_,_,rfl,rfl⟩
 |.bool,_,_,x,D=>by rw[aw0.1 D];exact .inr ⟨_,_,rfl,rfl⟩
 |.str,_,_,x,D=>by rw[aw0.1 D];exact .inr ⟨_,_,rfl,rfl⟩
 |.gK k,_,_,x,D=>by rw[aw0.1 D];exact .inr ⟨_,_,rfl,rfl⟩
 |.val,_,_,x,D=>by rw[aw0.1 D];exact .inr ⟨_,_,rfl,rfl⟩
 |.sl _,_,h,_,_=>by cases h
 |.ptr _,_,h,_,_=>by cases h
 |.opt _,_,h,_,_=>by cases h
theorem acG{X:Type}:∀{l:List Sh} {v:VL X l},l.all TU=true->∀x∈(mkL l v).1,B' x
 |[],_,_,x,D=>by cases D
 |s::r,v,h,x,D=>by
  rw[ay4,au0]at h;have D:=D;rcases aw2.1 D with D|D
  ·subst D;have h1:=h.1;cases s<;>first|(exact Bool.noConfusion h1)|exact .inr ⟨_,_,rfl,h1⟩|exact .inl ⟨_,rfl⟩
  ·exact acG h.2 x D
theorem abT{X:Type}:∀{l:List (Nat×SS)} {v:pZ X l},(l.all λq=>acF q.2)=true->∀p∈(mkSl l v).1,HM p.2
 |[],_,_,x,D=>by cases D
 |q::r,v,h,x,D=>by
  rw[ay4,au0]at h;have D:=D;rcases aw2.1 D with D|D
  ·subst D;have h1:=h.1;clear h D;obtain⟨k,s⟩:=q;cases s with
   |c s=>cases s<;>first|(exact Bool.noConfusion h1)|exact .inr ⟨_,_,rfl,h1⟩|exact .inl ⟨_,rfl⟩
   |agg l=>exact acG h1
   |st t=>exact Sy h1
   |fn=>cases h1
  ·exact abT h.2 x D
theorem ach{c c':Cx}{h h':Hp}{w:World}{q:List (Nat×SS)}{X:Type}{v:pZ X q}{l:List DS}(N:q.length=l.length)(hk:oo 0 q=true)(hs:∀t u,SR c h w u (bM (uK 0 l) t)->SR c' h' w u (bM (mkSl q v).1 t)){vals:List Value}(L:au (SR c h w) vals l):au (SR c' h' w) vals ((mkSl q v).1.map (·.2)):=by
 have J:=mkSl_keys q v;have hlen:(mkSl q v).1.length=q.length:=by have:=congrArg List.length J;grind
 refine au.of (by rw[L.len,au1,hlen,N]) λi u d h1 h2=>?_
 rw[aI0,Option.map_eq_some_iff]at h2;obtain⟨p,h2,rfl⟩:=h2;have F:i<l.length:=by have:=(ay9.1 h2).1;omega
 obtain⟨O,D,M⟩:=L.get (au4 F);rw[h1]at D;cases D;rw[<-Su hk J h2];exact hs _ _ (abj (au4 F)▸M)
theorem amp{rd:Bool}{ps:Ps}{aB:Shape}{l:List DS}{H:ax}{x:cm aB}(h:Ua rd ps aB l H=some x):aB.sl.length=l.length/\oo 0 aB.sl=true/\(rd=false->proj (OF ps) (λj=>(lk ps j).bind (aj H)) aB ⟨uK 0 l,H⟩=some x)/\
  (rd=true->(mkD aB x).hp=[]/\∃y:pZ Unit aB.sl,(mkSl aB.sl y).1=(mkD aB x).sl/\Ax (Ny H) (λt l=>pI (mo (sK H 3) t l)) (uK 0 l) aB.sl ()=some y):=by
 unfold Ua at h;split at h<;>try (cases h;done)
 rename_i hk;rw[au0]at hk;refine⟨aw6 hk.1,hk.2,?_⟩;obtain⟨sl,hp⟩:=aB;cases rd with
 |false=>grind
 |true=>
  cases hp with
  |nil=>exact⟨λe=>(by grind),λ_=>⟨rfl,x,rfl,h⟩⟩
  |cons=>grind
theorem RZ{P:Program}{o:Oper}{a:Act}{w:World}{N:Act->World->Prop}{Q:Exit->Act->World->Prop}{f:FuncId}{vals:Array Value}(h:(execOp a.eval o).run P w=.ok (.enter f vals) w)(hc:Calls P f vals w λe w'=>match e with|.returned v=>N (a.put o.dst v) w' |.panicked D=>Q (.panic D) a w' |.outgrown=>False):o.wp P a w N Q:=by unfold Oper.wp;rw[h];exact hc.mono λe w' he=>by cases e<;>first|exact he|exact he.elim
section
variable {R:Type} {y:R} {P:Program} {H:ax} {σ:cG} {dst:Option Tmp} {ty0:TypeId} {pos:String} {af:Array Edge} {gd:Option (Nat×Bool)}
theorem SK{f:FuncId}{yo:Operand}{xs:List Operand}{a b:List DC}{l:List DS}{ats:Array TypeId}{ow rd:Bool}{ps:Ps}{K:DS->ax->Option R}{KP:Value->ax->Option R}(hy:Nv σ yo=some (f,a,b))(hl:M8 σ a xs b=some l):∀{G:List (cM P)},mw P f l ow rd ps H K KP G=some y->
  (∃v H',K v H'=some y/\St P ⟨dst,.call {callee:=.value yo,args:=xs.toArray,argTypes:=ats},ty0,pos,af,gd⟩ σ H v H')\/(∃pv H',KP pv H'=some y/\Ie P ⟨dst,.call {callee:=.value yo,args:=xs.toArray,argTypes:=ats},ty0,pos,af,gd⟩ σ H pv H')
 |[],h=>by cases h
 |g::r,h=>by
  unfold mw at h;split at h
  ·exact SK hy hl h
  rename_i hb;rw[au0]at hb;obtain rfl:=aw6 hb.1;split at h
  ·exact SK hy hl h
  rename_i x Z;obtain⟨h1,h⟩:=bE h;rw[au0,au0,au0]at h1;obtain⟨⟨⟨hG,h1⟩,bx⟩,b2⟩:=h1;have hW:∀j k,(j,k)∈js ps->dw k=false:=λj k e=>by simpa using ax0.1 b2 _ e
  have eT:=g.eT;unfold oy at eT;rw[au0,au0]at eT;obtain⟨⟨a6,b7⟩,ca⟩:=eT;obtain⟨hlen,a1,b5,b6⟩:=amp Z;split at h
  ·rename_i az;obtain⟨b3,x1,b4,Z⟩:=b6 az;obtain⟨bb,h⟩:=bE h;obtain⟨o,ho,hc⟩:=g.ok _ _ _ _ h;rcases Le ho with⟨sh,v,hm,he,J⟩|⟨sh,pv,v,hm,he,J⟩
   ·refine .inl ⟨_,_,J,λE c h w A N Q hC hs ah Y hN=>?_⟩;obtain⟨vals,O,U⟩:=abf (g:=gd) (dst:=dst) (ty0:=ty0) (pos:=pos) (af:=af) hG hy hl Y;refine RZ O ?_
    obtain⟨p1,_⟩:=RB (ks:=g.aB.hp.map (·.1)) (Q:=CR c h w) (Q':=CR (cb c h) fq w) (c:=c) (h:=h) (w:=w) (c':=cb c h) (h':=fq) (w':=w) (pc:=Ny H) (λX s d x v a8 hp=>by
     unfold Ny at hp;split at hp
     ·split at hp<;>try (cases hp;done)
      rename_i aE;split at hp<;>try (cases hp;done)
      rename_i q hq;cases hp;exact⟨λu hu=>acb hC hs _ _ _ _ _ aE hq hu,rfl⟩
     ·exact aag hs (ks:=g.aB.hp.map (·.1)) ⟨λk k' e=>(by grind),λb i v h1 h2=>⟨Or.inl h1,h2⟩⟩ a8 hp) (λ_ _ h=>h) (λ_ _ h=>h) (λt q d us hj hu=>by obtain⟨l1,e,h3⟩:=Fv (Q:=CR c h w) (Q':=CR (cb c h) fq w) (λt x d v aE Z hv=>acb hC hs _ t x d v aE Z hv) t (Fa hj);rw[aw5]at e;subst e;exact h3 us hu) (Z' a6).1 Z
    have ar:Conc (cS w (cb c h) fq) (cb c h) fq w:=by
     have nb:∀k b,¬Bl (cb c h) fq k b:=λk b ⟨⟨o,e⟩,_⟩=>by cases e
     refine⟨λk o e=>(by cases e),λk k' b e=>(nb _ _ e).elim,λk b i e=>(nb _ _ e).elim,λb i e=>?_,cS.ko (λk k' b e=>(nb _ _ e).elim) (λk b i e=>(nb _ _ e).elim) (λk b e=>(nb _ _ e).elim) hC.OB,λ_ _ q=>q,λ_ _ q=>.inl q,λk b e=>(nb _ _ e).elim,Ext.refl _ _,λk o e=>?_⟩
     ·exact e.elim (hC.lt b i) λ⟨k,q⟩=>hC.blt q
     ·have e:(if 1000<=k/\k<3000 then none else none)=some o:=e
      split at e<;>cases e
    rw[b3]at hc;refine(hc (cb c h) w vals ar (by rw[<-b4];exact ach hlen a1 p1 U)).mono λe w' F=>?_
    obtain⟨c1,F⟩:=F;rw[he]at F;obtain⟨v1,rfl,g1,g2⟩:=F;have bp:gv w w':=g1.ext.mono λb ⟨k,_,⟨o,e⟩,_⟩=>by cases e
    obtain⟨q1,q2⟩:=hC.same bp;rw[bu.self hs]at hN;refine hN v1 w' c q1 q2 (asn (abT ?_) g2);exact ax0.1 bb _ hm
   ·cases J
  ·rename_i az;have Z:=b5 az;obtain⟨o,ho,hc⟩:=g.ok _ _ _ _ h
   have key:∀{E:cP} {c:Cx} {h:Hp} {w:World} {a':Act},Conc E c h w->Sub H h->(∀x∈(Op.call {callee:=.value yo,args:=xs.toArray,argTypes:=ats}).operands,∀d,bq σ x=some d->SR c h w (a'.eval x) d)->
     ∃vals:List Value,(execOp a'.eval ⟨dst,.call {callee:=.value yo,args:=xs.toArray,argTypes:=ats},ty0,pos,af,gd⟩).run P w=.ok (.enter g.f vals.toArray) w/\
      (Calls P g.f vals.toArray w λe w'=>∃c',pW (cS w (c0 ps c) (aj (mkD g.aB x).hp)) e c' w' (ni g.outs o))/\
      ∀{H1 A:ax} {c1:Cx} {w':World},qR (js ps) H H1 (js ps)=some A->(∀k,aj H k=none->aj A k≠none->h k=none)->Conc (cS w (c0 ps c) (aj (mkD g.aB x).hp)) c1 (aj H1) w'->(∀k o,(k,o)∈H1->∀hs ty wd,cX o=some (hs,ty,wd)->hs=[])->
       ∃c',Conc E c' (bu h (aj A)) w'/\eN c h w c' (bu h (aj A)) w'/\∀u x,CR c1 (aj H1) w' u x->CR c' (bu h (aj A)) w' u (rn (js ps) H x):=by
    intro E c h w a' hC hs Y;obtain⟨vals,O,U⟩:=abf (g:=gd) (dst:=dst) (ty0:=ty0) (pos:=pos) (af:=af) hG hy hl Y;obtain⟨p1,p2,p3⟩:=abE hs a6 Z (λk o e=>by obtain⟨k',D,L⟩:=ay0.1 e;exact⟨k',hs _ _ L,λq _ hq=>by rw[acA]at hq;rw[hq]at D;injection D⟩) (c:=c) (c':=c0 ps c) (w:=w) (λk k' _ e=>by unfold c0;simp[acA.1 e]) λ_ _ _ h1 h2=>⟨h1,h2⟩
    have ob:∀j o',aj (mkD g.aB x).hp j=some o'->∃k o,lk ps j=some k/\aj H k=some o/\nM o o'/\∀us,au (CR c h w) us (dT o)->au (CR (c0 ps c) (aj (mkD g.aB x).hp) w) us (dT o'):=λj o' e=>by obtain⟨o,D,L,M⟩:=p1 j o' e;obtain⟨k,e6,e7⟩:=ay0.1 D;exact⟨k,o,e6,e7,L,M⟩
    have ar:=hC.enter (h0:=aj (mkD g.aB x).hp) h1 λj o' e=>by obtain⟨k,o,D,L,M,e6⟩:=ob j o' e;exact⟨k,o,D,hs _ _ L,M.obj (by unfold c0;simp[D]) e6 (hC.obj k o (hs _ _ L))⟩
    refine⟨vals,O,hc (c0 ps c) w vals ar (ach hlen a1 p3 U),λ{H1 A c1 w'} hb hn a7 b1=>?_⟩;have an:=h1;unfold A5 at an;rw[au0]at an;refine hC.back h1 (λj o' e=>by obtain⟨k,o,D,L,M,_⟩:=ob j o' e;exact⟨k,o,D,hs _ _ L,M⟩) hs (λj k hj o e=>?_) (λj k hj b0 e=>?_) hW hb a7 (λj o1 e=>b1 j o1 (z7 e)) λj o' e=>?_
    ·have:=ax0.1 bx _ (si hj);rw[az0]at this;rcases this with q|q
     ·unfold mq at q;rw[show aj H (j,k).2=some o from e]at q;cases q
     ·obtain⟨o',D⟩:=aB0.1 (p2 j q);obtain⟨k',o2,L,M,e6,_⟩:=ob j o' D;rw[hj]at L;cases L;rw[e]at M;cases M;exact⟨o',D,e6⟩
    ·obtain⟨q1,_⟩:=SL (acp an.2) hb;obtain⟨o1,b8,_,_,D⟩:=q1 j k (SX.2 ⟨si hj,b0⟩);exact hn k e (by grind)
    ·obtain⟨q,_⟩:=mkH_mem (z7 e);obtain⟨p,q1,q2⟩:=ax1.1 q;have:=ax0.1 b7 p q1;rw[q2]at this;simpa using this
   rcases Le ho with⟨sh,v,hm,he,J⟩|⟨sh,pv,v,hm,he,J⟩
   ·unfold qQ at J;split at J<;>try (cases J;done)
    rename_i A hA;refine .inl ⟨_,_,J,λE c h w a' N Q hC hs ah Y hN=>?_⟩;obtain⟨vals,O,U,D⟩:=key hC hs Y;refine RZ O (U.mono λe w' F=>?_);obtain⟨c1,F⟩:=F;rw[he]at F;obtain⟨v1,rfl,g1,g2⟩:=F;obtain⟨c',g3,g4,g5⟩:=D hA ah g1 λk o hm=>(mkH_mem hm).2;exact hN v1 w' c' g3 g4 (abH g5 g2)
   ·unfold qQ at J;split at J<;>try (cases J;done)
    rename_i A hA;refine .inr ⟨_,_,J,λE c h w a' N Q hC hs ah Y hN=>?_⟩;obtain⟨vals,O,U,D⟩:=key hC hs Y;refine RZ O (U.mono λe w' F=>?_);obtain⟨c1,F⟩:=F;rw[he]at F;obtain⟨rfl,g1⟩:=F;obtain⟨c',g3,g4,g5⟩:=D hA ah g1 λk o hm=>(mkH_mem hm).2;exact hN w' c' g3 g4
end
end
end Go.Proofs.YtejhifnjgoclpaaGreatDoor.Fx
