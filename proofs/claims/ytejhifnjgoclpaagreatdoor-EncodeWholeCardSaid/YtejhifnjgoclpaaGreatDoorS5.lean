/- Parts of the proofs, put together by a program. -/
import Derived.Test.YtejhifnjgoclpaaGreatDoorS4
import Derived.Laws.MakeOwn
import Derived.OrdersHeld
set_option linter.unusedVariables false
set_option linter.unusedSimpArgs false
open List renaming getElem?_append_left->ax8
namespace Go.Proofs.YtejhifnjgoclpaaGreatDoor.Fx
open Go.RowKit
set_option maxRecDepth 1000000
noncomputable section
inductive Ty where
 |int (k:IntKind)
 |bool
 |str
 |gB (k:FloatKind)
 |sl (t:Ty)
 |ptr (t:Ty)
 |opt (t:Ty)
 |pair (a b:Ty)
 |unit
 |val
@[reducible] def den:Ty->Type
 |.int _=>Int
 |.bool=>Bool
 |.str=>List UInt8
 |.gB _=>Nat
 |.sl t=>List (den t)
 |.ptr t=>den t
 |.opt t=>Option (den t)
 |.pair a b=>den a×den b
 |.unit=>Unit
 |.val=>Nat×Value
def mT:(a b:Ty)->Option (PLift (a=b))
 |.int k,.int D=>if h:k=D then some ⟨by rw[h]⟩ else none
 |.bool,.bool=>some ⟨rfl⟩
 |.str,.str=>some ⟨rfl⟩
 |.gB k,.gB D=>if h:k=D then some ⟨by rw[h]⟩ else none
 |.sl a,.sl b=>match mT a b with|some h=>some ⟨by rw[h.down]⟩ |none=>none
 |.ptr a,.ptr b=>match mT a b with|some h=>some ⟨by rw[h.down]⟩ |none=>none
 |.opt a,.opt b=>match mT a b with|some h=>some ⟨by rw[h.down]⟩ |none=>none
 |.pair a b,.pair c d=>match mT a c,mT b d with|some h,some k=>some ⟨by rw[h.down,k.down]⟩ |_,_=>none
 |.unit,.unit=>some ⟨rfl⟩
 |.val,.val=>some ⟨rfl⟩
 |_,_=>none
def wid:Ty->Nat
 |.pair a b=>wid a+wid b
 |.unit=>0
 |_=>1
def lE:Ty->Bool
 |.pair _ _=>false
 |.unit=>false
 |_=>true
inductive LC where
 |v (t:Ty) (x:den t)
 |nil
inductive PK where
 |all
 |el (i j:Nat)
 |nC (i:Nat)
 |s9 (j:Nat)
inductive DC where
 |dead
 |kb (b:Bool)
 |v (t:Ty) (x:den t)
 |nil
 |np
 |z
 |mu (f:Nat)
 |nf
 |ow (k g:Nat) (p:PK)
 |ptr (k i:Nat)
 |el (t:Ty) (x:den t) (j:Nat)
 |Bj (l:List LC)
inductive DS where
 |dead
 |c (x:DC)
 |agg (l:List DC)
 |fk (l:List (Sum DC (List DC)))
 |fn (f:Fn) (a b:List DC)
inductive aX where
 |var (ty:TypeId) (cells:List DC)
 |row (hs:List (Option Nat)) (ty:TypeId) (t:Ty) (l:List (den t))
 |bI (hs:List (Option Nat)) (ty:TypeId) (t:Ty) (e:Bool) (l:List (den t)) (last:List DC)
abbrev Hp:=Nat->Option aX
def cA:(t:Ty)->den t->List DC
 |.pair a b,x=>cA a x.1++cA b x.2
 |.unit,_=>[]
 |.int k,x=>[.v (.int k) x]
 |.bool,x=>[.v .bool x]
 |.str,x=>[.v .str x]
 |.gB k,x=>[.v (.gB k) x]
 |.sl t,x=>[.v (.sl t) x]
 |.ptr t,x=>[.v (.ptr t) x]
 |.opt t,x=>[.v (.opt t) x]
 |.val,x=>[.v .val x]
theorem alm {t:Ty} (h:lE t=true) (x:den t):cA t x=[.v t x]:=by cases t<;>first |rfl |cases h
theorem iR:(t:Ty)->(x:den t)->(cA t x).length=wid t
 |.pair a b,x=>by show(cA a x.1++cA b x.2).length=_;rw[List.length_append,iR a,iR b];rfl
 |.unit,_ |.int _,_ |.bool,_ |.str,_ |.gB _,_ |.sl _,_ |.ptr _,_ |.opt _,_ |.val,_=>rfl
def aT (t:Ty):List (den t)->List DC
 |[]=>[]
 |x::l=>cA t x++aT t l
theorem hJ {t:Ty} (l:List (den t)):(aT t l).length=l.length*wid t:=by
 induction l with
 |nil=>simp [aT]
 |cons x l D=>simp [aT,D,iR,Nat.add_mul,Nat.add_comm]
theorem qu {t:Ty} (l q:List (den t)):aT t (l++q)=aT t l++aT t q:=by
 induction l with
 |nil=>rfl
 |cons x l D=>simp [aT,D]
theorem Fk {t:Ty}: ∀{l:List (den t)} {i:Nat} {x:den t},l[i]? =some x-> ∃r,(aT t l).drop (i*wid t)=cA t x++r
 |y::l,0,x,h=>⟨aT t l,by injection h with h;simp [aT,h]⟩
 |y::l,i+1,x,h=>by obtain⟨r,D⟩:=Fk (l:=l) (i:=i) h;exact⟨r,by rw[<-D,aT,Nat.add_mul,List.drop_append,iR,List.drop_eq_nil_of_le (by rw[iR];omega)];simp⟩
def dM:aX->List DC
 |.var _ l=>l
 |.row _ _ t l=>aT t l
 |.bI _ _ t e l last=>cond e [] (aT t l++last)
def bc:aX->Nat
 |.row _ _ _ l=>l.length
 |.bI _ _ _ e l _=>cond e 0 (l.length+1)
 |_=>0
def cU:aX->Option (List (Option Nat)×TypeId×Nat)
 |.row hs ty t _=>some (hs,ty,wid t)
 |.bI hs ty t _ _ _=>some (hs,ty,wid t)
 |_=>none
def cD (o:aX) (g:Nat):Option (Option Nat):=match cU o with|some (hs,_)=>(hs++[some (bc o)])[g]? |none=>none
structure Cx where
 m:Nat->Value
 A:Nat->Nat->Prop
def Fz (A:Nat->Nat->Prop) (w:World) (b o i:Nat) (v:Value):Prop:=A b (o+i)/\w.cell? ⟨b,o+i,none⟩=some v
def TR (A:Nat->Nat->Prop) (w:World):(t:Ty)->(Nat->Value->Prop)->den t->Prop
 |.int k,g,x=>g 0 (.int k x)
 |.bool,g,x=>g 0 (.bool x)
 |.str,g,x=>g 0 (.string ⟨x.toArray⟩)
 |.gB k,g,x=>g 0 (.float k x)
 |.val,g,x=>g 0 (.iface x.1 x.2)
 |.unit,_,_=>True
 |.pair a b,g,x=>TR A w a g x.1/\TR A w b (fun i=>g (wid a+i)) x.2
 |.ptr t,g,x=> ∃b o,g 0 (.pointer (some ⟨b,o,none⟩))/\TR A w t (Fz A w b o) x
 |.opt _,g,none=>g 0 (.pointer none)
 |.opt t,g,some x=> ∃b o,g 0 (.pointer (some ⟨b,o,none⟩))/\TR A w t (Fz A w b o) x
 |.sl t,g,l=> ∃a cap,g 0 (.slice a l.length cap)/\(l=[]\/l.length<=cap/\cap<=maxLen/\ ∃b o,a=some ⟨b,o,none⟩/\ ∀i x,l[i]? =some x->TR A w t (fun j=>Fz A w b o (i*wid t+j)) x)
abbrev uC (A:Nat->Nat->Prop) (w:World) (D:Nat->Nat->Prop) (w':World):Prop:= ∀b i v,A b i->w.cell? ⟨b,i,none⟩=some v->D b i/\w'.cell? ⟨b,i,none⟩=some v
theorem TR.mono {A N:Nat->Nat->Prop} {w w':World} (h:uC A w N w'):(t:Ty)-> ∀{g J:Nat->Value->Prop} {x:den t},(∀i v,g i v->J i v)->TR A w t g x->TR N w' t J x:=by
 have hf: ∀b o i v,Fz A w b o i v->Fz N w' b o i v:=fun b o i v q=>h _ _ _ q.1 q.2;intro t
 induction t with
 |sl t M=>intro g J x D ⟨a,cap,h1,h2⟩;exact⟨a,cap,D _ _ h1,h2.imp id fun⟨h2,O,b,o,U,Y⟩=>⟨h2,O,b,o,U,fun i x F=>M (fun _=>hf _ _ _) (Y i x F)⟩⟩
 |ptr t M=>intro g J x D ⟨b,o,h1,h2⟩;exact⟨b,o,D _ _ h1,M (hf _ _) h2⟩
 |opt t M=>
  intro g J x D F;cases x with
  |none=>exact D _ _ F
  |some x=>obtain⟨b,o,h1,h2⟩:=F;exact⟨b,o,D _ _ h1,M (hf _ _) h2⟩
 |pair a b Z ah=>intro g J x D F;exact⟨Z D F.1,ah (fun i v q=>D _ v q) F.2⟩
 |unit=>intro g J x D F;trivial
 |_=>intro g J x D F;exact D _ _ F
inductive ay {α β:Type} (R:α->β->Prop):List α->List β->Prop where
 |nil:ay R [] []
 |cons {a:α} {b:β} {l:List α} {q:List β} (h:R a b) (t:ay R l q):ay R (a::l) (b::q)
section
variable {α β:Type} {R:α->β->Prop}
theorem ay.len {l:List α} {q:List β} (h:ay R l q):l.length=q.length:=by induction h with|nil=>rfl |cons _ _ D=>simp [D]
theorem ay.get {l:List α} {q:List β} (h:ay R l q): ∀{i:Nat} {y:β},q[i]? =some y-> ∃x,l[i]? =some x/\R x y:=by
 induction h with
 |nil=>grind
 |cons h t D=>grind
theorem ay.of: ∀{l:List α} {q:List β},l.length=q.length->(∀(i:Nat) x y,l[i]? =some x->q[i]? =some y->R x y)->ay R l q
 |[],[],_,_=>.nil
 |[],_::_,e,_=>nomatch e
 |_::_,[],e,_=>nomatch e
 |x::l,y::q,e,h=>.cons (h 0 _ _ rfl rfl) (ay.of (by grind) fun i x y h1 h2=>h (i+1) x y h1 h2)
theorem ay.imp {γ:Type} {R':α->γ->Prop} {f:β->γ} (hf: ∀x y,R x y->R' x (f y)) {l:List α} {q:List β} (h:ay R l q):ay R' l (q.map f):=by induction h with|nil=>exact .nil |cons h _ D=>exact .cons (hf _ _ h) D
theorem ay.mono {R':α->β->Prop} (hf: ∀x y,R x y->R' x y) {l:List α} {q:List β} (h:ay R l q):ay R' l q:=by induction h with|nil=>exact .nil |cons h _ D=>exact .cons (hf _ _ h) D
theorem ay.app {l D:List α} {q F:List β} (h:ay R l q) (h':ay R D F):ay R (l++D) (q++F):=by induction h with|nil=>exact h' |cons h _ J=>exact .cons h J
theorem ay.take {l:List α} {q:List β} (h:ay R l q): ∀n:Nat,ay R (l.take n) (q.take n):=by
 induction h with
 |nil=>intro n;simp;exact .nil
 |cons h _ D=>intro n;cases n with|zero=>exact .nil |succ n=>exact .cons h (D n)
theorem ay.drop {l:List α} {q:List β} (h:ay R l q): ∀n:Nat,ay R (l.drop n) (q.drop n):=by
 induction h with
 |nil=>intro n;simp;exact .nil
 |cons h t D=>intro n;cases n with|zero=>exact .cons h t |succ n=>exact D n
end
def Rw (o:aX) (n:Option Nat) (D:Nat->Prop):Prop:= ∃hs ty wd,cU o=some (hs,ty,wd)/\ ∀m,n=some m->m<=bc o/\(m=bc o->D wd)
def PV (p:PK) (n wd:Nat) (m v:Value):Prop:=
 match p with
 |.all=>v=m
 |.el i j=>i<n/\ ∃b cap,m=.slice (some ⟨b,0,none⟩) n cap/\v=.pointer (some ⟨b,i*wd+j,none⟩)
 |.nC i=>i<=n/\0<n/\ ∃b cap,m=.slice (some ⟨b,0,none⟩) n cap/\v=.slice (some ⟨b,if cap=i then 0 else i*wd,none⟩) (n - i) (cap - i)
 |.s9 j=>0<n/\ ∃b cap,m=.slice (some ⟨b,0,none⟩) n cap/\v=.pointer (some ⟨b,(n - 1)*wd+j,none⟩)
def Ref (h:Hp) (k:Nat) (D:aX->Prop):Prop:= ∃o,h k=some o/\D o
def LCR (A:Nat->Nat->Prop) (w:World) (v:Value):LC->Prop
 |.v t x=>lE t=true/\TR A w t (fun _ u=>u=v) x
 |.nil=>v=.slice none 0 0
def CR (c:Cx) (h:Hp) (w:World) (v:Value):DC->Prop
 |.dead=>v.oneCell'=true
 |.kb b=>v=.bool b
 |.v t x=>lE t=true/\TR c.A w t (fun _ u=>u=v) x
 |.nil=>v=.slice none 0 0
 |.np=>v=.pointer none
 |.z=> ∃a,v=.slice a 0 0
 |.mu f=>v=.func (.func f) #[] #[]
 |.nf=>v=.nilFunc
 |.ow k g p=>v.oneCell'=true/\Ref h k fun o=> ∃n,cD o g=some n/\Rw o n fun wd=>PV p (bc o) wd (c.m k) v
 |.ptr k i=>v.oneCell'=true/\Ref h k fun o=>(∃ty cells,o=.var ty cells)/\ ∃b,c.m k=.pointer (some ⟨b,0,none⟩)/\v=.pointer (some ⟨b,i,none⟩)
 |.el t x j=> ∃b o,v=.pointer (some ⟨b,o+j,none⟩)/\TR c.A w t (Fz c.A w b o) x
 |.Bj l=> ∃b o cap,v=.slice (some ⟨b,o,none⟩) 1 cap/\1<=cap/\cap<=maxLen/\ ∀i x,l[i]? =some x-> ∃u,Fz c.A w b o i u/\LCR c.A w u x
theorem TR.one {A:Nat->Nat->Prop} {w:World} {t:Ty} {v:Value} {x:den t} (hs:lE t=true) (h:TR A w t (fun _ u=>u=v) x):v.oneCell'=true:=by
 cases t with
 |pair |unit=>cases hs
 |sl t=>obtain⟨_,_,rfl,_⟩:=h;rfl
 |ptr t=>obtain⟨_,_,rfl,_⟩:=h;rfl
 |opt t=>cases x with
  |none=>have h:=h;subst h;rfl
  |some x=>obtain⟨_,_,rfl,_⟩:=h;rfl
 |_=>have h:=h;subst h;rfl
theorem CR.one {c:Cx} {h:Hp} {w:World} {v:Value} {x:DC} (D:CR c h w v x):v.oneCell'=true:=by
 cases x with
 |v t x=>exact D.2.one D.1
 |ow |ptr=>exact D.1
 |z=>obtain⟨_,rfl⟩:=D;rfl
 |el=>obtain⟨_,_,rfl,_⟩:=D;rfl
 |Bj=>obtain⟨_,_,_,rfl,_⟩:=D;rfl
 |dead=>exact D
 |_=>have D:=D;subst D;rfl
def OL (s:Bool) (m:Value) (o:aX) (D:Value) (o':aX):Prop:=
 match cU o,o with
 |some (hs,ty,wd),_=> ∃F,cU o'=some (F,ty,wd)/\((∀g n,cD o g=some n->cD o' g=some n)/\(bc o'=bc o/\D=m\/bc o<bc o')\/s=true/\ ∀g n,cD o g=some n->cD o' g=some none)
 |_,.var ty _=>(∃cells,o'=.var ty cells)/\D=m
 |_,_=>False
theorem OL.refl (s:Bool) (m:Value) (o:aX):OL s m o m o:=by
 cases o with
 |var ty l=>exact⟨⟨_,rfl⟩,rfl⟩
 |_=>exact⟨_,rfl,.inl ⟨fun _ _ h=>h,.inl ⟨rfl,rfl⟩⟩⟩
theorem OL.trans {s:Bool} {m F J:Value} {o o' M:aX} (h:OL s m o F o') (h':OL s F o' J M):OL s m o J M:=by
 cases o with
 |var ty l=>obtain⟨⟨q,rfl⟩,rfl⟩:=h;exact h'
 |_=>
  obtain⟨hs,e,h1⟩:=h;unfold OL at h'⊢;rw[e] at h';obtain⟨O,N,D⟩:=h';refine⟨O,N,?_⟩;rcases h1 with⟨h1,h2⟩ |⟨hs,h1⟩<;>rcases D with⟨D,U⟩ |⟨hs,D⟩
  · grind
  · grind
  · exact .inr ⟨hs,fun g n q=>D g _ (h1 g n q)⟩
  · exact .inr ⟨hs,fun g n q=>D g _ (h1 g n q)⟩
theorem OL.up {s:Bool} {m D:Value} {o o':aX} (h:OL s m o D o'):OL true m o D o':=by
 unfold OL at h⊢;split at h
 · grind
 · omega
 · omega
def PL (m:Value) (o:aX) (D:Value) (o':aX):Prop:=
 match cU o,o with
 |some (_,ty,wd),_=> ∃F,cU o'=some (F,ty,wd)/\(bc o'=bc o/\D=m\/bc o<bc o')
 |_,.var ty _=>(∃cells,o'=.var ty cells)/\D=m
 |_,_=>False
theorem PL.trans {m D F:Value} {o o' J:aX} (h:PL m o D o') (h':PL D o' F J):PL m o F J:=by
 cases o with
 |var ty l=>obtain⟨⟨q,rfl⟩,rfl⟩:=h;exact h'
 |_=>
  obtain⟨hs,e,h2⟩:=h;unfold PL at h'⊢;rw[e] at h';obtain⟨N,M,O⟩:=h';refine⟨N,M,?_⟩
  · grind
theorem OL.pl {m D:Value} {o o':aX} (h:OL false m o D o'):PL m o D o':=by
 unfold OL at h;unfold PL;split at h
 · grind
 · omega
 · omega
structure eN (c:Cx) (h:Hp) (w:World) (c':Cx) (h':Hp) (w':World):Prop where
 obj: ∀k o,h k=some o-> ∃o',h' k=some o'/\OL true (c.m k) o (c'.m k) o'
 cell:uC c.A w c'.A w'
theorem eN.refl (c:Cx) (h:Hp) (w:World):eN c h w c h w:=⟨fun k o e=>⟨o,e,OL.refl _ _ _⟩,fun _ _ _ h1 h2=>⟨h1,h2⟩⟩
theorem eN.trans {c c' D:Cx} {h h' F:Hp} {w w' M:World} (l:eN c h w c' h' w') (J:eN c' h' w' D F M):eN c h w D F M:=by
 refine⟨fun k o e=>?_,fun b i v h1 h2=>?_⟩
 · obtain⟨Z,N,h1⟩:=l.obj k o e;obtain⟨o2,O,h2⟩:=J.obj k Z N;exact⟨o2,O,h1.trans h2⟩
 · obtain⟨U,Y⟩:=l.cell _ _ _ h1 h2;exact J.cell _ _ _ U Y
theorem Rw.ol {s:Bool} {m O:Value} {o o':aX} {g:Nat} {p:PK} {v:Value} (J:OL s m o O o') (U: ∃n,cD o g=some n/\Rw o n fun wd=>PV p (bc o) wd m v): ∃n,cD o' g=some n/\Rw o' n fun wd=>PV p (bc o') wd O v:=by
 obtain⟨n,h0,hs,ty,wd,h1,h2⟩:=U;unfold OL at J;rw[h1] at J;obtain⟨N,e,⟨D,F⟩ |⟨_,D⟩⟩:=J
 · refine⟨n,D _ _ h0,N,ty,wd,e,fun q M=>?_⟩;obtain⟨Y,Z⟩:=h2 q M;rcases F with⟨F,h8⟩ |F
   · grind
   · omega
 · exact⟨none,D _ _ h0,N,ty,wd,e,fun q M=>by cases M⟩
theorem Ref.fL {c c':Cx} {h h':Hp} {w w':World} (N:eN c h w c' h' w') {k:Nat} {F J:aX->Prop} (O: ∀o o',OL true (c.m k) o (c'.m k) o'->F o->J o') (D:Ref h k F):Ref h' k J:=by obtain⟨o,e,D⟩:=D;obtain⟨o',M,h1⟩:=N.obj k o e;exact⟨o',M,O _ _ h1 D⟩
theorem CR.fL {c c':Cx} {h h':Hp} {w w':World} (F:eN c h w c' h' w') {v:Value} {x:DC} (D:CR c h w v x):CR c' h' w' v x:=by
 cases x with
 |v t x=>exact⟨D.1,D.2.mono F.cell t (fun _ _ h=>h)⟩
 |ow k g p=>exact⟨D.1,D.2.fL F fun o o' O h2=>Rw.ol O h2⟩
 |ptr k i=>exact⟨D.1,D.2.fL F fun o o' O ⟨⟨ty,q,h1⟩,h2⟩=>by subst h1;obtain⟨⟨Z,J⟩,M⟩:=O;exact⟨⟨ty,Z,J⟩,by rw[M];exact h2⟩⟩
 |el t x j=>obtain⟨b,o,h1,h2⟩:=D;exact⟨b,o,h1,h2.mono F.cell t fun i v q=>F.cell _ _ _ q.1 q.2⟩
 |Bj l=>
  obtain⟨b,o,cap,h1,h2,J,M⟩:=D;refine⟨b,o,cap,h1,h2,J,fun i x Y=>?_⟩;obtain⟨u,U,N⟩:=M i x Y;refine⟨u,F.cell _ _ _ U.1 U.2,?_⟩;cases x with
  |v t x=>exact⟨N.1,N.2.mono F.cell t fun _ _ h=>h⟩
  |nil=>exact N
 |_=>exact D
def UR (c:Cx) (h:Hp) (w:World) (v:Value):Sum DC (List DC)->Prop
 |.inl x=>CR c h w v x
 |.inr l=> ∃vs:List Value,v=.agg vs.toArray/\ay (CR c h w) vs l
def SR (c:Cx) (h:Hp) (w:World) (v:Value):DS->Prop
 |.dead=>True
 |.c x=>CR c h w v x
 |.agg l=> ∃vs:List Value,v=.agg vs.toArray/\ay (CR c h w) vs l
 |.fk l=> ∃vs:List Value,v=.tuple vs.toArray/\ay (UR c h w) vs l
 |.fn f a b=> ∃vs us:List Value,v=.func f vs.toArray us.toArray/\ay (CR c h w) vs a/\ay (CR c h w) us b
theorem SR.imp {c c':Cx} {h h':Hp} {w w':World} (D: ∀v x,CR c h w v x->CR c' h' w' v x) {v:Value} {x:DS} (F:SR c h w v x):SR c' h' w' v x:=by
 have J: ∀{l:List DC} {v:Value},(∃vs:List Value,v=.agg vs.toArray/\ay (CR c h w) vs l)-> ∃vs:List Value,v=.agg vs.toArray/\ay (CR c' h' w') vs l:=fun⟨vs,h1,h2⟩=>⟨vs,h1,h2.mono D⟩;cases x with
 |dead=>trivial
 |c x=>exact D _ _ F
 |agg l=>exact J F
 |fk l=>
  obtain⟨vs,h1,h2⟩:=F;refine⟨vs,h1,h2.mono fun v x M=>?_⟩;cases x with
  |inl x=>exact D _ _ M
  |inr l=>exact J M
 |fn f a b=>obtain⟨vs,us,h1,h2,N⟩:=F;exact⟨vs,us,h1,h2.mono D,N.mono D⟩
theorem SR.fL {c c':Cx} {h h':Hp} {w w':World} (D:eN c h w c' h' w') {v:Value} {x:DS} (F:SR c h w v x):SR c' h' w' v x:=F.imp fun _ _=>CR.fL D
def CG (c:Cx) (h:Hp) (w:World) (g:Nat->Value->Prop) (l:List DC):Prop:= ∀i x,l[i]? =some x-> ∃v,g i v/\CR c h w v x
theorem CG.app {c:Cx} {h:Hp} {w:World} {g:Nat->Value->Prop} {l q:List DC}:CG c h w g (l++q)<->CG c h w g l/\CG c h w (fun i=>g (l.length+i)) q:=by
 refine⟨fun J=>⟨fun i x D=>J i x ?_,fun i x D=>J _ x ?_⟩,fun⟨h1,h2⟩ i x D=>?_⟩
 · grind
 · grind
 · rcases Nat.lt_or_ge i l.length with F |F
   · rw[ax8 F] at D;exact h1 i x D
   · rw[List.getElem?_append_right F] at D;obtain⟨v,M,N⟩:=h2 _ x D;grind
theorem TR.lE {A:Nat->Nat->Prop} {w:World} {t:Ty} (hs:lE t=true) {g:Nat->Value->Prop} {x:den t}:TR A w t g x<-> ∃v,g 0 v/\TR A w t (fun _ u=>u=v) x:=by
 cases t with
 |pair |unit=>cases hs
 |sl t=>exact⟨fun⟨a,cap,h1,h2⟩=>⟨_,h1,a,cap,rfl,h2⟩,fun⟨_,h0,a,cap,h1,h2⟩=>⟨a,cap,h1▸h0,h2⟩⟩
 |ptr t=>exact⟨fun⟨b,o,h1,h2⟩=>⟨_,h1,b,o,rfl,h2⟩,fun⟨_,h0,b,o,h1,h2⟩=>⟨b,o,h1▸h0,h2⟩⟩
 |opt t=>
  cases x with
  |none=>exact⟨fun h=>⟨_,h,rfl⟩,fun⟨v,h,e⟩=>by have e:=e;subst e;exact h⟩
  |some x=>exact⟨fun⟨b,o,h1,h2⟩=>⟨_,h1,b,o,rfl,h2⟩,fun⟨_,h0,b,o,h1,h2⟩=>⟨b,o,h1▸h0,h2⟩⟩
 |_=>exact⟨fun h=>⟨_,h,rfl⟩,fun⟨v,h,e⟩=>by have e:=e;subst e;exact h⟩
theorem CG.tr {c:Cx} {h:Hp} {w:World}:(t:Ty)-> ∀{g:Nat->Value->Prop} {x:den t},CG c h w g (cA t x)<->TR c.A w t g x:=by
 intro t
 induction t with
 |pair a b M N=>intro g x;show CG c h w g (cA a x.1++cA b x.2)<->_;rw[CG.app,M,iR,N];rfl
 |unit=>intro g x;exact⟨fun _=>trivial,fun _ i x J=>by cases J⟩
 |_=>
  intro g x;rw[TR.lE rfl];refine⟨fun F=>?_,fun⟨v,h1,h2⟩ i y D=>?_⟩
  · obtain⟨v,h1,_,h2⟩:=F 0 _ rfl;grind
  · cases i with
    |zero=>cases D;exact⟨v,h1,rfl,h2⟩
    |succ i=>cases D
theorem CG.part {c:Cx} {h:Hp} {w:World} {g:Nat->Value->Prop} {l q r:List DC} {i:Nat} (F:CG c h w g l) (e:l.drop i=q++r):CG c h w (fun j=>g (i+j)) q:=fun j x D=>F _ x (by rw[<-List.getElem?_drop,e,ax8 (List.getElem?_eq_some_iff.1 D).1];exact D)
theorem CG.flat {c:Cx} {h:Hp} {w:World} {t:Ty}: ∀{l:List (den t)} {g:Nat->Value->Prop},CG c h w g (aT t l)<-> ∀i x,l[i]? =some x->TR c.A w t (fun j=>g (i*wid t+j)) x
 |[],g=>⟨fun _ i x D=>(by grind),fun _ i x D=>(by cases D)⟩
 |y::l,g=>by
  show CG c h w g (cA t y++aT t l)<->_;rw[CG.app,CG.tr,CG.flat,iR];refine⟨fun⟨h1,h2⟩ i x D=>?_,fun D=>⟨by simpa using D 0 y rfl,fun i x F=>by simpa[Nat.add_mul,Nat.add_comm,Nat.add_left_comm] using D (i+1) x F⟩⟩
  cases i with
  |zero=>grind
  |succ i=>grind
theorem CG.list {c:Cx} {h:Hp} {w:World}: ∀{l:List DC} {g:Nat->Value->Prop},CG c h w g l-> ∃vs,ay (CR c h w) vs l/\ ∀(i:Nat) v,vs[i]? =some v->g i v
 |[],g,_=>⟨[],.nil,fun i v N=>(by grind)⟩
 |x::l,g,D=>by
  obtain⟨v,h1,h2⟩:=D 0 x rfl;obtain⟨vs,F,M⟩:=CG.list (l:=l) (g:=fun i=>g (i+1)) fun i x J=>D (i+1) x J;refine⟨v::vs,.cons h2 F,fun i u hu=>?_⟩;cases i with
  |zero=>grind
  |succ i=>grind
theorem CG.of {c:Cx} {h:Hp} {w:World} {vs:List Value} {l:List DC} {g:Nat->Value->Prop} (D:ay (CR c h w) vs l) (F: ∀(i:Nat) v,vs[i]? =some v->g i v):CG c h w g l:=fun i x J=>by obtain⟨v,h1,h2⟩:=D.get J;exact⟨v,F i v h1,h2⟩
end
end Go.Proofs.YtejhifnjgoclpaaGreatDoor.Fx
