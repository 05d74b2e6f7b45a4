/- Parts of the proofs, put together by a program. -/
import Derived.WalkKit
import Derived.ProofKit
import Derived.OpenShut
import Derived.Lib.Hide
import Derived.Laws.OwnMore
import Derived.Deep.Slices
import Derived.Deep.Fields
import Derived.Lib.SmallJoins
import Derived.Deep.AppendLies
import Derived.WalkSmall
import Derived.Laws.MakeOwn
import Derived.OrdersHeld
set_option linter.unusedVariables false
set_option linter.unusedSimpArgs false
open Nat renaming le_refl->ab8,le_trans->an4,lt_of_lt_of_le->au5
open List renaming getElem?_eq_getElem->ae6,getElem?_append_left->av5,getElem?_append_right->ax8
namespace Go.Proofs.YtejhifnjgoclpaaGreatDoor
open Go.RowKit
def acp (k:IntKind) (w:World) (v:Value) (l:List Int):Prop:=
 (∃a cap,v=.slice a 0 cap/\l=[])\/
 ∃b off cap,v=.slice (some ⟨b,off,none⟩) l.length cap/\0<l.length/\l.length<=maxLen/\b<w.heap.size/\ ∀i,i<l.length->w.cell? ⟨b,off+i,none⟩=some (.int k (l.getD i 0))
theorem alY {w:World} {b o:Nat} {v:Value} (h:w.cell? ⟨b,o,none⟩=some v):b<w.heap.size:=by
 apply Classical.byContradiction;intro D;have:w.heap[b]? =none:=by simp;omega
 simp [World.cell?,this] at h
theorem acp.len {k:IntKind} {w:World} {v:Value} {l:List Int} (h:acp k w v l):l.length<=maxLen:=by
 rcases h with⟨_,_,_,rfl⟩ |⟨_,_,_,_,_,h,_⟩
 · simp
 · exact h
end Go.Proofs.YtejhifnjgoclpaaGreatDoor
namespace Go.Proofs.YtejhifnjgoclpaaGreatDoor
open Go.RowKit
def acn (w:World) (v:Value) (vs:List Value):Prop:=
 (∃a cap,v=.slice a 0 cap/\vs=[])\/
 ∃b off cap,v=.slice (some ⟨b,off,none⟩) vs.length cap/\(0<vs.length/\vs.length<=cap)/\cap<=maxLen/\b<w.heap.size/\ ∀i,i<vs.length->w.cell? ⟨b,off+i,none⟩=vs[i]?
theorem acn.len {w:World} {v:Value} {l:List Value} (h:acn w v l):l.length<=maxLen:=by
 rcases h with⟨_,_,_,rfl⟩ |⟨_,_,_,_,h1,h,_⟩
 · simp
 · exact an4 h1.2 h
theorem ai0 {w w':World} {base:Nat} {e:TypeId} {size:Nat} {v:Value} {n:Nat} {xs:List Value} (h:w.ownsRow base e size v n xs) (J:Below w.heap.size w w'):w'.ownsRow base e size v n xs:=by
 obtain⟨L,h⟩:=h;refine⟨L,?_⟩;rcases h with h |⟨g,cap,cur,h1,h2,D,F⟩
 · exact .inl h
 · refine .inr ⟨g,cap,cur,h1,h2,?_,F⟩
   have M:g<w.heap.size:=by
    apply Classical.byContradiction;intro N;have:w.heap[g]? =none:=by simp;omega
    rw[this] at D;cases D
   rw[J.block g M];exact D
end Go.Proofs.YtejhifnjgoclpaaGreatDoor
namespace Go.Proofs.YtejhifnjgoclpaaGreatDoor
open Go.RowKit Go.ChangeShapes Go.WideShapes Go.Deep
def Cells (w:World) (b off n:Nat) (cs:List Value):Prop:=cs.length=n/\ ∀j,j<n->w.cell? ⟨b,off+j,none⟩=cs[j]?
def RowOf {α:Type} (n:Nat) (R:World->List Value->α->Prop) (w:World) (v:Value) (l:List α):Prop:=
 (∃a cap,v=.slice a 0 cap/\l=[]/\cap<=maxLen)\/
 ∃b off cap,v=.slice (some ⟨b,off,none⟩) l.length cap/\l.length<=cap/\cap<=maxLen/\b<w.heap.size/\ ∀(i:Nat) (h:i<l.length),∃cs,Cells w b (off+i*n) n cs/\R w cs l[i]
theorem RowOf.len {α:Type} {n:Nat} {R:World->List Value->α->Prop} {w:World} {v:Value} {l:List α} (h:RowOf n R w v l):l.length<=maxLen:=by
 rcases h with⟨_,_,_,rfl,_⟩ |⟨_,_,_,_,h1,h2,_⟩
 · simp
 · exact an4 h1 h2
theorem RowOf.shape {α:Type} {n:Nat} {R:World->List Value->α->Prop} {w:World} {v:Value} {l:List α} (h:RowOf n R w v l): ∃a cap,v=.slice a l.length cap:=by
 rcases h with⟨a,cap,rfl,rfl,_⟩ |⟨b,off,cap,rfl,_⟩
 · exact⟨_,_,rfl⟩
 · exact⟨_,_,rfl⟩
theorem RowOf.at_ {α:Type} {n:Nat} {R:World->List Value->α->Prop} {w:World} {a:Option Addr} {len cap:Nat} {l:List α} (h:RowOf n R w (.slice a len cap) l) (i:Nat) (D:i<l.length):
  ∃b off,a=some ⟨b,off,none⟩/\b<w.heap.size/\ ∃cs,Cells w b (off+i*n) n cs/\R w cs l[i]:=by
 rcases h with⟨_,_,_,rfl,_⟩ |⟨b,off,L,F,_,_,J,hc⟩
 · simp at D
 · simp only[Value.slice.injEq] at F;exact⟨b,off,F.1,J,hc i D⟩
section
variable {H:Type} {enc:TypeId×Value->H} {P:Program} {w:World} {base:Nat} {spare:Nat->Bool} {held:Bool}
theorem Xk {α:Type} [Inhabited α] {R:World->List Value->α->Prop} {t e:TypeId} {n fuel:Nat} {cs:List Value} {x:DataW H×List MemPlace} (ht:P.underlying t=some (.slice e)) (hC:P.cellsOf e=n) (O:0<n)
  (hR: ∀m cs y,DataW.trod enc P w base spare held m e cs=some y-> ∃x:α,R w cs x)
  (h:DataW.trod enc P w base spare held fuel t cs=some x): ∃(v:Value) (l:List α),cs=[v]/\RowOf n R w v l:=by
 rcases open_slice ht h with⟨rfl,_⟩ |⟨a,len,cap,m,k,D,Pl,rfl,hb,hl,hm,an,N,hi⟩
 · exact⟨_,[],rfl,.inl ⟨_,_,rfl,rfl,by omega⟩⟩
 · refine⟨.slice (some a) len cap,?_⟩;by_cases h0:len=0
   · subst h0;exact⟨[],rfl,.inl ⟨_,_,rfl,rfl,hm⟩⟩
   · have az:len<=m:=by rw[an];split<;>omega
     have Y: ∀i,i<len-> ∃x:α,∃F,(F.length=n/\ ∀j,j<n->w.cell? ((a.add (i*n)).add j)=F[j]?)/\R w F x:=λi M=>by
      obtain⟨F,hc,av⟩:=hi i (by omega)
      rw[hC] at hc;obtain⟨_,L,J⟩:=World.cells?_some hc;obtain⟨x,N⟩:=hR _ _ _ av;exact⟨x,F,⟨L,J⟩,N⟩
     obtain⟨f,hf⟩:=choose_lt Y;obtain⟨b,off,spot⟩:=a
     have ar:spot=none:=by
      obtain⟨F,⟨L,J⟩,_⟩:=hf 0 (by omega)
      have h1:=J 0 O;have h2:F[0]? =some (F[0]'(by omega)):=ae6 (by omega)
      rw[h2] at h1;simpa[Addr.add] using World.cell?_spot h1
     subst ar;have U: ∀k,(⟨b,off,none⟩:Addr).add k=⟨b,off+k,none⟩:=λk=>by unfold Addr.add;by_cases hk:k=0<;>simp [hk]
     have J: ∀i,i<len-> ∃F,Cells w b (off+i*n) n F/\R w F (f i):=λi M=>by obtain⟨F,⟨L,J⟩,N⟩:=hf i M;refine⟨F,⟨L,λj hj=>?_⟩,N⟩;have:=J j hj;rw[Go.Deep.add_add,U] at this;rw[Nat.add_assoc];exact this
     have Z:b<w.heap.size:=by
      obtain⟨F,⟨L,hc⟩,_⟩:=J 0 (by omega)
      have h1:=hc 0 O;have h2:F[0]? =some (F[0]'(by omega)):=ae6 (by omega)
      rw[h2] at h1;exact alY h1
     refine⟨(List.range len).map f,rfl,.inr ⟨b,off,cap,by simp,by simp;omega,hm,Z,λi ah=>?_⟩⟩
     have M:i<len:=by simpa using ah
     obtain⟨F,hc,hr⟩:=J i M;exact⟨F,hc,by simpa using hr⟩
theorem rowOf_open {α:Type} [Inhabited α] {R:World->List Value->α->Prop} {t e:TypeId} {n:Nat} {a:Option Addr} {len cap:Nat} {d:DataW H} {p:List MemPlace} (L:P.underlying t=some (.slice e)) (hC:P.cellsOf e=n) (J:0<n)
  (hR: ∀m cs y,DataW.trod enc P w base spare held m e cs=some y-> ∃x:α,R w cs x)
  (h:DataW.Trod enc P w base spare held t (.slice a len cap) d p): ∃l:List α,RowOf n R w (.slice a len cap) l/\l.length=len:=by
 obtain⟨fuel,hf⟩:=h;obtain⟨v,l,F,D⟩:=Xk L hC J hR hf;simp [Value.cells] at F;subst F;obtain⟨M,N,he⟩:=D.shape;simp only[Value.slice.injEq] at he;exact⟨l,D,he.2.1.symm⟩
end
end Go.Proofs.YtejhifnjgoclpaaGreatDoor
namespace Go.Proofs.YtejhifnjgoclpaaGreatDoor
open Go.RowKit
structure rz (F:Nat->Prop) (w w':World):Prop where
 os:w'.os=w.os
 tape:w'.tape=w.tape
 output:w'.output=w.output
 size:w.heap.size<=w'.heap.size
 block: ∀b,b<w.heap.size-> ¬F b->w'.heap[b]? =w.heap[b]?
theorem rz.refl (F:Nat->Prop) (w:World):rz F w w:=⟨rfl,rfl,rfl,ab8 _,λ_ _ _=>rfl⟩
theorem rz.trans {F:Nat->Prop} {a b c:World} (h:rz F a b) (k:rz F b c):rz F a c:=
 ⟨k.os.trans h.os,k.tape.trans h.tape,k.output.trans h.output,an4 h.size k.size,λx J D=>(k.block x (au5 J h.size) D).trans (h.block x J D)⟩
def TV {α:Type} (R:World->List Value->α->Prop) (w:World) (F:Nat->Prop) (cs:List Value) (x:α):Prop:= ∀w',rz F w w'->R w' cs x
theorem TV.here {α:Type} {R:World->List Value->α->Prop} {w:World} {F:Nat->Prop} {cs:List Value} {x:α} (h:TV R w F cs x):R w cs x:=h w (rz.refl F w)
def acP {α:Type} (n:Nat) (R:World->List Value->α->Prop) (F:Nat->Prop) (w:World) (base:Nat) (E:TypeId) (v:Value) (l:List α):Prop:=
 ∃D:List (List Value),D.length=l.length/\(∀cs∈D,cs.length=n)/\w.ownsRow base E n v l.length D.flatten/\ ∀(i:Nat) (h:i<D.length) (h':i<l.length),TV R w (λb=>F b\/v.ownBlock=some b) D[i] l[i]
theorem al8 (n:Nat): ∀(D:List (List Value)),(∀c∈D,c.length=n)-> ∀(i:Nat) (h:i<D.length) (j:Nat),j<n->D.flatten[i*n+j]? =(D[i])[j]? :=by
 intro D
 induction D with
 |nil=>intro _ i h;simp at h
 |cons c t M=>
  intro hc i h j L;have F:c.length=n:=hc c (by simp)
  cases i with
  |zero=>
   rw[List.flatten_cons,av5 (by omega)]
   simp
  |succ i=>
   rw[List.flatten_cons,ax8 (by rw[F,Nat.succ_mul];omega)]
   have e:(i+1)*n+j - c.length=i*n+j:=by rw[F,Nat.succ_mul];omega
   rw[e,M (λc J=>hc c (by simp [J])) i (by simpa using h) j L]
   simp
theorem aiZ {w:World} {base:Nat} {E:TypeId} {n g cap m:Nat} {xs:List Value} (h:w.ownsRow base E n (.slice (some ⟨g,0,none⟩) m cap) m xs) {j:Nat} (J:j<m*n):w.cell? ⟨g,j,none⟩=xs[j]? :=by
 obtain⟨O,h⟩:=h;rcases h with⟨h,_⟩ |⟨M,L,cur,h1,_,D,_,_,_,F⟩
 · cases h
 · injection h1 with h1 h2 N;injection h1 with h1;injection h1 with h1;subst h1;rw[cell_of_row w g j cur E (0,0) D,<-F,List.getElem?_take_of_lt J,Array.getElem?_toList]
theorem acP.row {α:Type} {n:Nat} {R:World->List Value->α->Prop} {F:Nat->Prop} {w:World} {base:Nat} {E:TypeId} {v:Value} {l:List α} (h:acP n R F w base E v l) (hn:0<n):RowOf n R w v l:=by
 obtain⟨D,h1,h2,J,Z⟩:=h;by_cases U:l.length=0
 · have av:=List.length_eq_zero_iff.1 U;subst av;rcases J.2 with⟨rfl,_⟩ |⟨g,cap,cur,rfl,_,_,_,hc,_⟩
   · exact .inl ⟨_,_,rfl,rfl,by omega⟩
   · exact .inl ⟨_,_,rfl,rfl,hc⟩
 · have Y:=J;rcases J.2 with⟨_,h0⟩ |⟨g,cap,cur,rfl,_,M,ah,an,_⟩
   · exact absurd h0 U
   · refine .inr ⟨g,0,cap,rfl,ah,an,?_,λi N=>?_⟩
     · rcases Nat.lt_or_ge g w.heap.size with L |ar
       · exact L
       · rw[Array.getElem?_eq_none ar] at M;cases M
     · have O:i<D.length:=by omega
       refine⟨D[i],⟨h2 _ (List.getElem_mem _),λj hj=>?_⟩,(Z i O N).here⟩;have L:i*n+j<l.length*n:=by have:(i+1)*n<=l.length*n:=Nat.mul_le_mul_right n N;rw[Nat.succ_mul] at this;omega
       rw[Nat.zero_add,aiZ Y L];exact al8 n D h2 i O j hj
def acQ {α:Type} (n:Nat) (R:World->List Value->α->Prop) (F:Nat->Prop) (w:World) (v:Value) (l:List α):Prop:=
 (∃a cap,v=.slice a 0 cap/\l=[]/\cap<=maxLen)\/
 ∃(b off cap:Nat) (D:List (List Value)),v=.slice (some ⟨b,off,none⟩) l.length cap/\l.length<=cap/\cap<=maxLen/\b<w.heap.size/\D.length=l.length/\
  ∀(i:Nat) (h:i<D.length) (h':i<l.length) (w':World),rz F w w'->Cells w' b (off+i*n) n D[i]/\R w' D[i] l[i]
theorem acQ.row {α:Type} {n:Nat} {R:World->List Value->α->Prop} {F:Nat->Prop} {w:World} {v:Value} {l:List α} (h:acQ n R F w v l):RowOf n R w v l:=by
 rcases h with h |⟨b,off,cap,D,h1,h2,J,L,O,M⟩
 · exact .inl h
 · exact .inr ⟨b,off,cap,h1,h2,J,L,λi N=>⟨D[i]'(by omega),M i (by omega) N w (rz.refl _ _)⟩⟩
end Go.Proofs.YtejhifnjgoclpaaGreatDoor
namespace Go.Proofs.YtejhifnjgoclpaaGreatDoor
open Go.RowKit
theorem apX {b c o p:Nat} (h:o≠p):(⟨b,o,none⟩:Addr)≠⟨c,p,none⟩:=by intro e;injection e with _ D;exact h D
theorem aq2 {w:World} {a b:Addr} {v:Value} (h:a≠b):(w.setCell a v).cell? b=w.cell? b:=World.cell?_setCell_other _ _ _ _ h
theorem aq3 {w:World} {a:Addr} {v u:Value} (h:w.cell? a=some u):(w.setCell a v).cell? a=some v:=World.cell?_setCell_same _ _ _ h
structure kx (w:World) (b:Nat) (vs:List Value):Prop where
 lt:b<w.heap.size
 cell: ∀i,i<vs.length->w.cell? ⟨b,i,none⟩=vs[i]?
 free: ∀i,w.frozen? ⟨b,i,none⟩=false
theorem kx.get {w:World} {b:Nat} {vs:List Value} (h:kx w b vs) (i:Nat) {u:Value} (hu:vs[i]? =some u):w.cell? ⟨b,i,none⟩=some u:=by rw[h.cell i (by rcases Nat.lt_or_ge i vs.length with D |D;exact D;rw[List.getElem?_eq_none D] at hu;cases hu),hu]
theorem kx.below {w w':World} {b:Nat} {vs:List Value} {B:Nat} (h:kx w b vs) (D:Below B w w') (J:b<B):kx w' b vs:=by have F:=D.block b J;exact⟨au5 h.lt D.size,λi L=>by rw[World.cell?_of_block (w:=w) (a:=⟨b,i,none⟩) F];exact h.cell i L,λi=>by rw[World.frozen?_of_block (w:=w) (a:=⟨b,i,none⟩) F];exact h.free i⟩
theorem kx.after {w w':World} {b:Nat} {vs:List Value} (h:kx w b vs) (D:Below w.heap.size w w'):kx w' b vs:=h.below D h.lt
theorem ahC (w:World) (a:Addr) (u:Value):(w.setCell a u).heap.size=w.heap.size:=by simp [World.setCell]
theorem kx.set {w:World} {b:Nat} {vs:List Value} (h:kx w b vs) (i:Nat) (D:i<vs.length) (u:Value):kx (w.setCell ⟨b,i,none⟩ u) b (vs.set i u):=by
 refine⟨by rw[ahC];exact h.lt,λj F=>?_,λj=>by rw[World.frozen?_setCell];exact h.free j⟩
 rw[List.length_set] at F;by_cases e:i=j
 · subst e;rw[aq3 (u:=vs[i]) (by rw[h.cell i D];simp),List.getElem?_set_self D]
 · rw[aq2 (apX e),List.getElem?_set_ne e];exact h.cell j F
theorem kx.alloc {w:World} {b:Nat} {vs:List Value} (h:kx w b vs) (o:Obj):kx (w.alloc o) b vs:=h.after ((Below.refl _ _).alloc (ab8 _) o)
end Go.Proofs.YtejhifnjgoclpaaGreatDoor
namespace Go.Proofs.YtejhifnjgoclpaaGreatDoor.Fx
open Go.RowKit
set_option maxRecDepth 1000000
noncomputable section
inductive Ty where
 |int (k:IntKind)
 |bool
 |str
 |gB (k:FloatKind)
 |sl (t:Ty)
 |ptr (t:Ty)
 |opt (t:Ty)
 |pair (a b:Ty)
 |unit
 |val
@[reducible] def den:Ty->Type
 |.int _=>Int
 |.bool=>Bool
 |.str=>List UInt8
 |.gB _=>Nat
 |.sl t=>List (den t)
 |.ptr t=>den t
 |.opt t=>Option (den t)
 |.pair a b=>den a×den b
 |.unit=>Unit
 |.val=>Nat×Value
def mT:(a b:Ty)->Option (PLift (a=b))
 |.int k,.int D=>if h:k=D then some ⟨by rw[h]⟩ else none
 |.bool,.bool=>some ⟨rfl⟩
 |.str,.str=>some ⟨rfl⟩
 |.gB k,.gB D=>if h:k=D then some ⟨by rw[h]⟩ else none
 |.sl a,.sl b=>match mT a b with|some h=>some ⟨by rw[h.down]⟩ |none=>none
 |.ptr a,.ptr b=>match mT a b with|some h=>some ⟨by rw[h.down]⟩ |none=>none
 |.opt a,.opt b=>match mT a b with|some h=>some ⟨by rw[h.down]⟩ |none=>none
 |.pair a b,.pair c d=>match mT a c,mT b d with|some h,some k=>some ⟨by rw[h.down,k.down]⟩ |_,_=>none
 |.unit,.unit=>some ⟨rfl⟩
 |.val,.val=>some ⟨rfl⟩
 |_,_=>none
def wid:Ty->Nat
 |.pair a b=>wid a+wid b
 |.unit=>0
 |_=>1
def lE:Ty->Bool
 |.pair _ _=>false
 |.unit=>false
 |_=>true
inductive LC where
 |v (t:Ty) (x:den t)
 |nil
inductive PK where
 |all
 |el (i j:Nat)
 |nC (i:Nat)
 |s9 (j:Nat)
inductive DC where
 |dead
 |kb (b:Bool)
 |v (t:Ty) (x:den t)
 |nil
 |np
 |z
 |mu (f:Nat)
 |nf
 |ow (k g:Nat) (p:PK)
 |ptr (k i:Nat)
 |el (t:Ty) (x:den t) (j:Nat)
 |Bj (l:List LC)
inductive DS where
 |dead
 |c (x:DC)
 |agg (l:List DC)
 |fk (l:List (Sum DC (List DC)))
 |fn (f:Fn) (a b:List DC)
inductive aX where
 |var (ty:TypeId) (cells:List DC)
 |row (hs:List (Option Nat)) (ty:TypeId) (t:Ty) (l:List (den t))
 |bI (hs:List (Option Nat)) (ty:TypeId) (t:Ty) (e:Bool) (l:List (den t)) (last:List DC)
abbrev Hp:=Nat->Option aX
def cA:(t:Ty)->den t->List DC
 |.pair a b,x=>cA a x.1++cA b x.2
 |.unit,_=>[]
 |.int k,x=>[.v (.int k) x]
 |.bool,x=>[.v .bool x]
 |.str,x=>[.v .str x]
 |.gB k,x=>[.v (.gB k) x]
 |.sl t,x=>[.v (.sl t) x]
 |.ptr t,x=>[.v (.ptr t) x]
 |.opt t,x=>[.v (.opt t) x]
 |.val,x=>[.v .val x]
theorem alm {t:Ty} (h:lE t=true) (x:den t):cA t x=[.v t x]:=by cases t<;>first |rfl |cases h
theorem iR:(t:Ty)->(x:den t)->(cA t x).length=wid t
 |.pair a b,x=>by show(cA a x.1++cA b x.2).length=_;rw[List.length_append,iR a,iR b];rfl
 |.unit,_ |.int _,_ |.bool,_ |.str,_ |.gB _,_ |.sl _,_ |.ptr _,_ |.opt _,_ |.val,_=>rfl
def aT (t:Ty):List (den t)->List DC
 |[]=>[]
 |x::l=>cA t x++aT t l
theorem hJ {t:Ty} (l:List (den t)):(aT t l).length=l.length*wid t:=by
 induction l with
 |nil=>simp [aT]
 |cons x l D=>simp [aT,D,iR,Nat.add_mul,Nat.add_comm]
theorem qu {t:Ty} (l q:List (den t)):aT t (l++q)=aT t l++aT t q:=by
 induction l with
 |nil=>rfl
 |cons x l D=>simp [aT,D]
theorem Fk {t:Ty}: ∀{l:List (den t)} {i:Nat} {x:den t},l[i]? =some x-> ∃r,(aT t l).drop (i*wid t)=cA t x++r
 |y::l,0,x,h=>⟨aT t l,by injection h with h;simp [aT,h]⟩
 |y::l,i+1,x,h=>by obtain⟨r,D⟩:=Fk (l:=l) (i:=i) h;exact⟨r,by rw[<-D,aT,Nat.add_mul,List.drop_append,iR,List.drop_eq_nil_of_le (by rw[iR];omega)];simp⟩
def dM:aX->List DC
 |.var _ l=>l
 |.row _ _ t l=>aT t l
 |.bI _ _ t e l last=>cond e [] (aT t l++last)
def bc:aX->Nat
 |.row _ _ _ l=>l.length
 |.bI _ _ _ e l _=>cond e 0 (l.length+1)
 |_=>0
def cU:aX->Option (List (Option Nat)×TypeId×Nat)
 |.row hs ty t _=>some (hs,ty,wid t)
 |.bI hs ty t _ _ _=>some (hs,ty,wid t)
 |_=>none
def cD (o:aX) (g:Nat):Option (Option Nat):=match cU o with|some (hs,_)=>(hs++[some (bc o)])[g]? |none=>none
structure Cx where
 m:Nat->Value
 A:Nat->Nat->Prop
def Fz (A:Nat->Nat->Prop) (w:World) (b o i:Nat) (v:Value):Prop:=A b (o+i)/\w.cell? ⟨b,o+i,none⟩=some v
def TR (A:Nat->Nat->Prop) (w:World):(t:Ty)->(Nat->Value->Prop)->den t->Prop
 |.int k,g,x=>g 0 (.int k x)
 |.bool,g,x=>g 0 (.bool x)
 |.str,g,x=>g 0 (.string ⟨x.toArray⟩)
 |.gB k,g,x=>g 0 (.float k x)
 |.val,g,x=>g 0 (.iface x.1 x.2)
 |.unit,_,_=>True
 |.pair a b,g,x=>TR A w a g x.1/\TR A w b (λi=>g (wid a+i)) x.2
 |.ptr t,g,x=> ∃b o,g 0 (.pointer (some ⟨b,o,none⟩))/\TR A w t (Fz A w b o) x
 |.opt _,g,none=>g 0 (.pointer none)
 |.opt t,g,some x=> ∃b o,g 0 (.pointer (some ⟨b,o,none⟩))/\TR A w t (Fz A w b o) x
 |.sl t,g,l=> ∃a cap,g 0 (.slice a l.length cap)/\(l=[]\/l.length<=cap/\cap<=maxLen/\ ∃b o,a=some ⟨b,o,none⟩/\ ∀i x,l[i]? =some x->TR A w t (λj=>Fz A w b o (i*wid t+j)) x)
abbrev uC (A:Nat->Nat->Prop) (w:World) (D:Nat->Nat->Prop) (w':World):Prop:= ∀b i v,A b i->w.cell? ⟨b,i,none⟩=some v->D b i/\w'.cell? ⟨b,i,none⟩=some v
theorem TR.mono {A M:Nat->Nat->Prop} {w w':World} (h:uC A w M w'):(t:Ty)-> ∀{g J:Nat->Value->Prop} {x:den t},(∀i v,g i v->J i v)->TR A w t g x->TR M w' t J x:=by
 have hf: ∀b o i v,Fz A w b o i v->Fz M w' b o i v:=λb o i v q=>h _ _ _ q.1 q.2;intro t
 induction t with
 |sl t L=>intro g J x D ⟨a,cap,h1,h2⟩;exact⟨a,cap,D _ _ h1,h2.imp id λ⟨h2,N,b,o,O,U⟩=>⟨h2,N,b,o,O,λi x F=>L (λ_=>hf _ _ _) (U i x F)⟩⟩
 |ptr t L=>intro g J x D ⟨b,o,h1,h2⟩;exact⟨b,o,D _ _ h1,L (hf _ _) h2⟩
 |opt t L=>
  intro g J x D F;cases x with
  |none=>exact D _ _ F
  |some x=>obtain⟨b,o,h1,h2⟩:=F;exact⟨b,o,D _ _ h1,L (hf _ _) h2⟩
 |pair a b Y Z=>intro g J x D F;exact⟨Y D F.1,Z (λi v q=>D _ v q) F.2⟩
 |unit=>intro g J x D F;trivial
 |_=>intro g J x D F;exact D _ _ F
inductive ay {α β:Type} (R:α->β->Prop):List α->List β->Prop where
 |nil:ay R [] []
 |cons {a:α} {b:β} {l:List α} {q:List β} (h:R a b) (t:ay R l q):ay R (a::l) (b::q)
section
variable {α β:Type} {R:α->β->Prop}
theorem ay.len {l:List α} {q:List β} (h:ay R l q):l.length=q.length:=by induction h with|nil=>rfl |cons _ _ D=>simp [D]
theorem ay.get {l:List α} {q:List β} (h:ay R l q): ∀{i:Nat} {y:β},q[i]? =some y-> ∃x,l[i]? =some x/\R x y:=by
 induction h with
 |nil=>grind
 |cons h t D=>grind
theorem ay.of: ∀{l:List α} {q:List β},l.length=q.length->(∀(i:Nat) x y,l[i]? =some x->q[i]? =some y->R x y)->ay R l q
 |[],[],_,_=>.nil
 |[],_::_,e,_=>nomatch e
 |_::_,[],e,_=>nomatch e
 |x::l,y::q,e,h=>.cons (h 0 _ _ rfl rfl) (ay.of (by grind) λi x y h1 h2=>h (i+1) x y h1 h2)
theorem ay.imp {γ:Type} {R':α->γ->Prop} {f:β->γ} (hf: ∀x y,R x y->R' x (f y)) {l:List α} {q:List β} (h:ay R l q):ay R' l (q.map f):=by induction h with|nil=>exact .nil |cons h _ D=>exact .cons (hf _ _ h) D
theorem ay.mono {R':α->β->Prop} (hf: ∀x y,R x y->R' x y) {l:List α} {q:List β} (h:ay R l q):ay R' l q:=by induction h with|nil=>exact .nil |cons h _ D=>exact .cons (hf _ _ h) D
theorem ay.app {l D:List α} {q F:List β} (h:ay R l q) (h':ay R D F):ay R (l++D) (q++F):=by induction h with|nil=>exact h' |cons h _ J=>exact .cons h J
theorem ay.take {l:List α} {q:List β} (h:ay R l q): ∀n:Nat,ay R (l.take n) (q.take n):=by
 induction h with
 |nil=>intro n;simp;exact .nil
 |cons h _ D=>intro n;cases n with|zero=>exact .nil |succ n=>exact .cons h (D n)
theorem ay.drop {l:List α} {q:List β} (h:ay R l q): ∀n:Nat,ay R (l.drop n) (q.drop n):=by
 induction h with
 |nil=>intro n;simp;exact .nil
 |cons h t D=>intro n;cases n with|zero=>exact .cons h t |succ n=>exact D n
end
def Rw (o:aX) (n:Option Nat) (D:Nat->Prop):Prop:= ∃hs ty wd,cU o=some (hs,ty,wd)/\ ∀m,n=some m->m<=bc o/\(m=bc o->D wd)
def PV (p:PK) (n wd:Nat) (m v:Value):Prop:=
 match p with
 |.all=>v=m
 |.el i j=>i<n/\ ∃b cap,m=.slice (some ⟨b,0,none⟩) n cap/\v=.pointer (some ⟨b,i*wd+j,none⟩)
 |.nC i=>i<=n/\0<n/\ ∃b cap,m=.slice (some ⟨b,0,none⟩) n cap/\v=.slice (some ⟨b,if cap=i then 0 else i*wd,none⟩) (n - i) (cap - i)
 |.s9 j=>0<n/\ ∃b cap,m=.slice (some ⟨b,0,none⟩) n cap/\v=.pointer (some ⟨b,(n - 1)*wd+j,none⟩)
def Ref (h:Hp) (k:Nat) (D:aX->Prop):Prop:= ∃o,h k=some o/\D o
def LCR (A:Nat->Nat->Prop) (w:World) (v:Value):LC->Prop
 |.v t x=>lE t=true/\TR A w t (λ_ u=>u=v) x
 |.nil=>v=.slice none 0 0
def CR (c:Cx) (h:Hp) (w:World) (v:Value):DC->Prop
 |.dead=>v.oneCell'=true
 |.kb b=>v=.bool b
 |.v t x=>lE t=true/\TR c.A w t (λ_ u=>u=v) x
 |.nil=>v=.slice none 0 0
 |.np=>v=.pointer none
 |.z=> ∃a,v=.slice a 0 0
 |.mu f=>v=.func (.func f) #[] #[]
 |.nf=>v=.nilFunc
 |.ow k g p=>v.oneCell'=true/\Ref h k λo=> ∃n,cD o g=some n/\Rw o n λwd=>PV p (bc o) wd (c.m k) v
 |.ptr k i=>v.oneCell'=true/\Ref h k λo=>(∃ty cells,o=.var ty cells)/\ ∃b,c.m k=.pointer (some ⟨b,0,none⟩)/\v=.pointer (some ⟨b,i,none⟩)
 |.el t x j=> ∃b o,v=.pointer (some ⟨b,o+j,none⟩)/\TR c.A w t (Fz c.A w b o) x
 |.Bj l=> ∃b o cap,v=.slice (some ⟨b,o,none⟩) 1 cap/\1<=cap/\cap<=maxLen/\ ∀i x,l[i]? =some x-> ∃u,Fz c.A w b o i u/\LCR c.A w u x
theorem TR.one {A:Nat->Nat->Prop} {w:World} {t:Ty} {v:Value} {x:den t} (hs:lE t=true) (h:TR A w t (λ_ u=>u=v) x):v.oneCell'=true:=by
 cases t with
 |pair |unit=>cases hs
 |sl t=>obtain⟨_,_,rfl,_⟩:=h;rfl
 |ptr t=>obtain⟨_,_,rfl,_⟩:=h;rfl
 |opt t=>cases x with
  |none=>have h:=h;subst h;rfl
  |some x=>obtain⟨_,_,rfl,_⟩:=h;rfl
 |_=>have h:=h;subst h;rfl
theorem CR.one {c:Cx} {h:Hp} {w:World} {v:Value} {x:DC} (D:CR c h w v x):v.oneCell'=true:=by
 cases x with
 |v t x=>exact D.2.one D.1
 |ow |ptr=>exact D.1
 |z=>obtain⟨_,rfl⟩:=D;rfl
 |el=>obtain⟨_,_,rfl,_⟩:=D;rfl
 |Bj=>obtain⟨_,_,_,rfl,_⟩:=D;rfl
 |dead=>exact D
 |_=>have D:=D;subst D;rfl
def OL (s:Bool) (m:Value) (o:aX) (D:Value) (o':aX):Prop:=
 match cU o,o with
 |some (hs,ty,wd),_=> ∃F,cU o'=some (F,ty,wd)/\((∀g n,cD o g=some n->cD o' g=some n)/\(bc o'=bc o/\D=m\/bc o<bc o')\/s=true/\ ∀g n,cD o g=some n->cD o' g=some none)
 |_,.var ty _=>(∃cells,o'=.var ty cells)/\D=m
 |_,_=>False
theorem OL.refl (s:Bool) (m:Value) (o:aX):OL s m o m o:=by
 cases o with
 |var ty l=>exact⟨⟨_,rfl⟩,rfl⟩
 |_=>exact⟨_,rfl,.inl ⟨λ_ _ h=>h,.inl ⟨rfl,rfl⟩⟩⟩
theorem OL.trans {s:Bool} {m F J:Value} {o o' L:aX} (h:OL s m o F o') (h':OL s F o' J L):OL s m o J L:=by
 cases o with
 |var ty l=>obtain⟨⟨q,rfl⟩,rfl⟩:=h;exact h'
 |_=>
  obtain⟨hs,e,h1⟩:=h;unfold OL at h'⊢;rw[e] at h';obtain⟨N,M,D⟩:=h';refine⟨N,M,?_⟩;rcases h1 with⟨h1,h2⟩ |⟨hs,h1⟩<;>rcases D with⟨D,O⟩ |⟨hs,D⟩
  · grind
  · grind
  · exact .inr ⟨hs,λg n q=>D g _ (h1 g n q)⟩
  · exact .inr ⟨hs,λg n q=>D g _ (h1 g n q)⟩
theorem OL.up {s:Bool} {m D:Value} {o o':aX} (h:OL s m o D o'):OL true m o D o':=by
 unfold OL at h⊢;split at h
 · grind
 · omega
 · omega
def PL (m:Value) (o:aX) (D:Value) (o':aX):Prop:=
 match cU o,o with
 |some (_,ty,wd),_=> ∃F,cU o'=some (F,ty,wd)/\(bc o'=bc o/\D=m\/bc o<bc o')
 |_,.var ty _=>(∃cells,o'=.var ty cells)/\D=m
 |_,_=>False
theorem PL.trans {m D F:Value} {o o' J:aX} (h:PL m o D o') (h':PL D o' F J):PL m o F J:=by
 cases o with
 |var ty l=>obtain⟨⟨q,rfl⟩,rfl⟩:=h;exact h'
 |_=>
  obtain⟨hs,e,h2⟩:=h;unfold PL at h'⊢;rw[e] at h';obtain⟨M,L,N⟩:=h';refine⟨M,L,?_⟩
  · grind
theorem OL.pl {m D:Value} {o o':aX} (h:OL false m o D o'):PL m o D o':=by
 unfold OL at h;unfold PL;split at h
 · grind
 · omega
 · omega
structure eN (c:Cx) (h:Hp) (w:World) (c':Cx) (h':Hp) (w':World):Prop where
 obj: ∀k o,h k=some o-> ∃o',h' k=some o'/\OL true (c.m k) o (c'.m k) o'
 cell:uC c.A w c'.A w'
theorem eN.refl (c:Cx) (h:Hp) (w:World):eN c h w c h w:=⟨λk o e=>⟨o,e,OL.refl _ _ _⟩,λ_ _ _ h1 h2=>⟨h1,h2⟩⟩
theorem eN.trans {c c' D:Cx} {h h' F:Hp} {w w' L:World} (l:eN c h w c' h' w') (J:eN c' h' w' D F L):eN c h w D F L:=by
 refine⟨λk o e=>?_,λb i v h1 h2=>?_⟩
 · obtain⟨Y,M,h1⟩:=l.obj k o e;obtain⟨Z,N,h2⟩:=J.obj k Y M;exact⟨Z,N,h1.trans h2⟩
 · obtain⟨O,U⟩:=l.cell _ _ _ h1 h2;exact J.cell _ _ _ O U
theorem Rw.ol {s:Bool} {m N:Value} {o o':aX} {g:Nat} {p:PK} {v:Value} (J:OL s m o N o') (O: ∃n,cD o g=some n/\Rw o n λwd=>PV p (bc o) wd m v): ∃n,cD o' g=some n/\Rw o' n λwd=>PV p (bc o') wd N v:=by
 obtain⟨n,h0,hs,ty,wd,h1,h2⟩:=O;unfold OL at J;rw[h1] at J;obtain⟨M,e,⟨D,F⟩ |⟨_,D⟩⟩:=J
 · refine⟨n,D _ _ h0,M,ty,wd,e,λq L=>?_⟩;obtain⟨U,Y⟩:=h2 q L;rcases F with⟨F,Z⟩ |F
   · grind
   · omega
 · exact⟨none,D _ _ h0,M,ty,wd,e,λq L=>by cases L⟩
theorem Ref.fL {c c':Cx} {h h':Hp} {w w':World} (M:eN c h w c' h' w') {k:Nat} {F J:aX->Prop} (N: ∀o o',OL true (c.m k) o (c'.m k) o'->F o->J o') (D:Ref h k F):Ref h' k J:=by obtain⟨o,e,D⟩:=D;obtain⟨o',L,h1⟩:=M.obj k o e;exact⟨o',L,N _ _ h1 D⟩
theorem CR.fL {c c':Cx} {h h':Hp} {w w':World} (F:eN c h w c' h' w') {v:Value} {x:DC} (D:CR c h w v x):CR c' h' w' v x:=by
 cases x with
 |v t x=>exact⟨D.1,D.2.mono F.cell t (λ_ _ h=>h)⟩
 |ow k g p=>exact⟨D.1,D.2.fL F λo o' N h2=>Rw.ol N h2⟩
 |ptr k i=>exact⟨D.1,D.2.fL F λo o' N ⟨⟨ty,q,h1⟩,h2⟩=>by subst h1;obtain⟨⟨Y,J⟩,L⟩:=N;exact⟨⟨ty,Y,J⟩,by rw[L];exact h2⟩⟩
 |el t x j=>obtain⟨b,o,h1,h2⟩:=D;exact⟨b,o,h1,h2.mono F.cell t λi v q=>F.cell _ _ _ q.1 q.2⟩
 |Bj l=>
  obtain⟨b,o,cap,h1,h2,J,L⟩:=D;refine⟨b,o,cap,h1,h2,J,λi x U=>?_⟩;obtain⟨u,O,M⟩:=L i x U;refine⟨u,F.cell _ _ _ O.1 O.2,?_⟩;cases x with
  |v t x=>exact⟨M.1,M.2.mono F.cell t λ_ _ h=>h⟩
  |nil=>exact M
 |_=>exact D
def UR (c:Cx) (h:Hp) (w:World) (v:Value):Sum DC (List DC)->Prop
 |.inl x=>CR c h w v x
 |.inr l=> ∃vs:List Value,v=.agg vs.toArray/\ay (CR c h w) vs l
def SR (c:Cx) (h:Hp) (w:World) (v:Value):DS->Prop
 |.dead=>True
 |.c x=>CR c h w v x
 |.agg l=> ∃vs:List Value,v=.agg vs.toArray/\ay (CR c h w) vs l
 |.fk l=> ∃vs:List Value,v=.tuple vs.toArray/\ay (UR c h w) vs l
 |.fn f a b=> ∃vs us:List Value,v=.func f vs.toArray us.toArray/\ay (CR c h w) vs a/\ay (CR c h w) us b
theorem SR.imp {c c':Cx} {h h':Hp} {w w':World} (D: ∀v x,CR c h w v x->CR c' h' w' v x) {v:Value} {x:DS} (F:SR c h w v x):SR c' h' w' v x:=by
 have J: ∀{l:List DC} {v:Value},(∃vs:List Value,v=.agg vs.toArray/\ay (CR c h w) vs l)-> ∃vs:List Value,v=.agg vs.toArray/\ay (CR c' h' w') vs l:=λ⟨vs,h1,h2⟩=>⟨vs,h1,h2.mono D⟩;cases x with
 |dead=>trivial
 |c x=>exact D _ _ F
 |agg l=>exact J F
 |fk l=>
  obtain⟨vs,h1,h2⟩:=F;refine⟨vs,h1,h2.mono λv x L=>?_⟩;cases x with
  |inl x=>exact D _ _ L
  |inr l=>exact J L
 |fn f a b=>obtain⟨vs,us,h1,h2,M⟩:=F;exact⟨vs,us,h1,h2.mono D,M.mono D⟩
theorem SR.fL {c c':Cx} {h h':Hp} {w w':World} (D:eN c h w c' h' w') {v:Value} {x:DS} (F:SR c h w v x):SR c' h' w' v x:=F.imp λ_ _=>CR.fL D
def CG (c:Cx) (h:Hp) (w:World) (g:Nat->Value->Prop) (l:List DC):Prop:= ∀i x,l[i]? =some x-> ∃v,g i v/\CR c h w v x
theorem CG.app {c:Cx} {h:Hp} {w:World} {g:Nat->Value->Prop} {l q:List DC}:CG c h w g (l++q)<->CG c h w g l/\CG c h w (λi=>g (l.length+i)) q:=by
 refine⟨λJ=>⟨λi x D=>J i x ?_,λi x D=>J _ x ?_⟩,λ⟨h1,h2⟩ i x D=>?_⟩
 · grind
 · grind
 · rcases Nat.lt_or_ge i l.length with F |F
   · rw[av5 F] at D;exact h1 i x D
   · rw[ax8 F] at D;obtain⟨v,L,M⟩:=h2 _ x D;grind
theorem TR.lE {A:Nat->Nat->Prop} {w:World} {t:Ty} (hs:lE t=true) {g:Nat->Value->Prop} {x:den t}:TR A w t g x<-> ∃v,g 0 v/\TR A w t (λ_ u=>u=v) x:=by
 cases t with
 |pair |unit=>cases hs
 |sl t=>exact⟨λ⟨a,cap,h1,h2⟩=>⟨_,h1,a,cap,rfl,h2⟩,λ⟨_,h0,a,cap,h1,h2⟩=>⟨a,cap,h1▸h0,h2⟩⟩
 |ptr t=>exact⟨λ⟨b,o,h1,h2⟩=>⟨_,h1,b,o,rfl,h2⟩,λ⟨_,h0,b,o,h1,h2⟩=>⟨b,o,h1▸h0,h2⟩⟩
 |opt t=>
  cases x with
  |none=>exact⟨λh=>⟨_,h,rfl⟩,λ⟨v,h,e⟩=>by have e:=e;subst e;exact h⟩
  |some x=>exact⟨λ⟨b,o,h1,h2⟩=>⟨_,h1,b,o,rfl,h2⟩,λ⟨_,h0,b,o,h1,h2⟩=>⟨b,o,h1▸h0,h2⟩⟩
 |_=>exact⟨λh=>⟨_,h,rfl⟩,λ⟨v,h,e⟩=>by have e:=e;subst e;exact h⟩
theorem CG.tr {c:Cx} {h:Hp} {w:World}:(t:Ty)-> ∀{g:Nat->Value->Prop} {x:den t},CG c h w g (cA t x)<->TR c.A w t g x:=by
 intro t
 induction t with
 |pair a b L M=>intro g x;show CG c h w g (cA a x.1++cA b x.2)<->_;rw[CG.app,L,iR,M];rfl
 |unit=>intro g x;exact⟨λ_=>trivial,λ_ i x J=>by cases J⟩
 |_=>
  intro g x;rw[TR.lE rfl];refine⟨λF=>?_,λ⟨v,h1,h2⟩ i y D=>?_⟩
  · obtain⟨v,h1,_,h2⟩:=F 0 _ rfl;grind
  · cases i with
    |zero=>cases D;exact⟨v,h1,rfl,h2⟩
    |succ i=>cases D
theorem CG.part {c:Cx} {h:Hp} {w:World} {g:Nat->Value->Prop} {l q r:List DC} {i:Nat} (F:CG c h w g l) (e:l.drop i=q++r):CG c h w (λj=>g (i+j)) q:=λj x D=>F _ x (by rw[<-List.getElem?_drop,e,av5 (List.getElem?_eq_some_iff.1 D).1];exact D)
theorem CG.flat {c:Cx} {h:Hp} {w:World} {t:Ty}: ∀{l:List (den t)} {g:Nat->Value->Prop},CG c h w g (aT t l)<-> ∀i x,l[i]? =some x->TR c.A w t (λj=>g (i*wid t+j)) x
 |[],g=>⟨λ_ i x D=>(by grind),λ_ i x D=>(by cases D)⟩
 |y::l,g=>by
  show CG c h w g (cA t y++aT t l)<->_;rw[CG.app,CG.tr,CG.flat,iR];refine⟨λ⟨h1,h2⟩ i x D=>?_,λD=>⟨by simpa using D 0 y rfl,λi x F=>by simpa[Nat.add_mul,Nat.add_comm,Nat.add_left_comm] using D (i+1) x F⟩⟩
  cases i with
  |zero=>grind
  |succ i=>grind
theorem CG.list {c:Cx} {h:Hp} {w:World}: ∀{l:List DC} {g:Nat->Value->Prop},CG c h w g l-> ∃vs,ay (CR c h w) vs l/\ ∀(i:Nat) v,vs[i]? =some v->g i v
 |[],g,_=>⟨[],.nil,λi v M=>(by grind)⟩
 |x::l,g,D=>by
  obtain⟨v,h1,h2⟩:=D 0 x rfl;obtain⟨vs,F,L⟩:=CG.list (l:=l) (g:=λi=>g (i+1)) λi x J=>D (i+1) x J;refine⟨v::vs,.cons h2 F,λi u hu=>?_⟩;cases i with
  |zero=>grind
  |succ i=>grind
theorem CG.of {c:Cx} {h:Hp} {w:World} {vs:List Value} {l:List DC} {g:Nat->Value->Prop} (D:ay (CR c h w) vs l) (F: ∀(i:Nat) v,vs[i]? =some v->g i v):CG c h w g l:=λi x J=>by obtain⟨v,h1,h2⟩:=D.get J;exact⟨v,F i v h1,h2⟩
end
end Go.Proofs.YtejhifnjgoclpaaGreatDoor.Fx
