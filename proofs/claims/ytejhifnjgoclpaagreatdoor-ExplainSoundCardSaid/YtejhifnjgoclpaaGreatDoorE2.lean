/- Parts of the proofs, put together by a program. -/
import Derived.Test.YtejhifnjgoclpaaGreatDoorE1
import Derived.Lib.ItoaNum
set_option linter.unusedVariables false
set_option linter.unusedSimpArgs false
open Nat renaming le_trans->an4,lt_of_lt_of_le->au5
namespace Go.Proofs.YtejhifnjgoclpaaGreatDoor.Fx
open Go.RowKit
set_option maxRecDepth 1000000
noncomputable section
def bY {α:Type} (f:Nat->α) (k:Nat) (v:α) (j:Nat):α:=if j=k then v else f j
theorem gl {α:Type} (f:Nat->α) (k:Nat) (v:α):bY f k v k=v:=if_pos rfl
theorem iG {α:Type} {f:Nat->α} {k j:Nat} {v:α} (h:j≠k):bY f k v j=f j:=if_neg h
def dS:Value->Option Nat
 |.pointer (some a)=>some a.block
 |.slice (some a) _ (_+1)=>some a.block
 |_=>none
theorem ue {b l cap D:Nat} (h:dS (.slice (some ⟨b,0,none⟩) l cap)=some D):D=b:=by
 cases cap with
 |zero=>cases h
 |succ cap=>injection h with h;grind
def dZ (w:World) (e:TypeId) (n:Nat) (v:Value) (m:Nat) (xs:List Value):Prop:=
 (∃a,v=.slice a 0 0/\m=0/\xs=[])\/
 ∃g cap cur,v=.slice (some ⟨g,0,none⟩) m (cap+1)/\w.heap[g]? =some (.cells cur e (0,0))/\m<=cap+1/\cap+1<=maxLen/\cur.size=(cap+1)*n/\cur.toList.take (m*n)=xs
theorem dZ.of {w:World} {e:TypeId} {n m b:Nat} {v:Value} {xs:List Value} (h:w.ownsRow b e n v m xs):dZ w e n v m xs:=by
 rcases h with⟨h1,⟨rfl,rfl⟩ |⟨g,cap,cur,rfl,_,h2,F,J,L,D⟩⟩
 · exact .inl ⟨none,rfl,rfl,List.length_eq_zero_iff.1 (by grind)⟩
 · cases cap with
   |zero=>
    obtain rfl:m=0:=by omega
    exact .inl ⟨_,rfl,rfl,by rw[<-D];simp⟩
   |succ cap=>exact .inr ⟨g,cap,cur,rfl,h2,F,J,L,D⟩
theorem dZ.len {w:World} {e:TypeId} {n m:Nat} {v:Value} {xs:List Value} (h:dZ w e n v m xs):xs.length=m*n:=by
 rcases h with⟨a,_,rfl,rfl⟩ |⟨g,cap,cur,_,_,D,_,J,F⟩
 · simp
 · rw[<-F];have:m*n<=(cap+1)*n:=Nat.mul_le_mul_right _ D;grind
theorem vS {w:World} {b:Nat} {o:Obj} (h:w.heap[b]? =some o):b<w.heap.size:=by grind
abbrev a0i:TypeId:=4294967295
def a2T (ty:TypeId) (cs:Array Value):Obj:=
 match Nat.beq ty a0i,cs.toList with
 |true,[.string s,.int _ p]=>.stringIter s p.toNat
 |_,_=>.cells cs ty (0,0)
theorem a0G {ty:TypeId} (h:Nat.beq ty a0i=false) (cs:Array Value):a2T ty cs=.cells cs ty (0,0):=by grind[a2T]
def nz (c:Cx) (h:Hp) (w:World) (k:Nat):aX->Prop
 |.var ty cells=> ∃b cs,c.m k=.pointer (some ⟨b,0,none⟩)/\w.heap[b]? =some (a2T ty cs)/\ay (CR c h w) cs.toList cells
 |o=> ∃hs ty n xs,cU o=some (hs,ty,n)/\0<n/\dZ w ty n (c.m k) (bc o) xs/\ay (CR c h w) xs (dM o)
theorem nz.lt {c:Cx} {h:Hp} {w:World} {k:Nat} {o:aX} (F:nz c h w k o) {b:Nat} (D:dS (c.m k)=some b):b<w.heap.size:=by
 have key: ∀{m e n l xs},dZ w e n m l xs->dS m=some b->b<w.heap.size:=λJ D=>by
  rcases J with⟨a,e,_⟩ |⟨g,cap,cur,e,h2,_⟩
  · rw[e] at D;cases a<;>cases D
  · rw[e] at D;cases D;grind
 cases o with
 |var ty l=>obtain⟨L,cs,h1,h2,_⟩:=F;rw[h1] at D;cases D;grind
 |_=>obtain⟨_,_,_,_,_,_,h1,_⟩:=F;grind
theorem nz.imp {c c':Cx} {h h':Hp} {w w':World} (L: ∀v x,CR c h w v x->CR c' h' w' v x) {k:Nat} {o:aX} (hm:c'.m k=c.m k) (D: ∀b,dS (c.m k)=some b->w'.heap[b]? =w.heap[b]?) (M:nz c h w k o):nz c' h' w' k o:=by
 have key: ∀{m e n l xs},dZ w e n m l xs->(∀b,dS m=some b->w'.heap[b]? =w.heap[b]?)->dZ w' e n m l xs:=λY D=>by
  rcases Y with e |⟨g,cap,cur,J,N,O⟩
  · exact .inl e
  · exact .inr ⟨g,cap,cur,J,by rw[D g (J▸rfl)];exact N,O⟩
 cases o with
 |var ty l=>obtain⟨b,cs,h1,h2,F⟩:=M;exact⟨b,cs,hm.trans h1,(D b (h1▸rfl)).trans h2,F.mono L⟩
 |_=>obtain⟨hs,ty,n,xs,h1,h2,F,U⟩:=M;exact⟨hs,ty,n,xs,h1,h2,by rw[hm];exact key F D,U.mono L⟩
def Bl (c:Cx) (h:Hp) (k b:Nat):Prop:=(∃o,h k=some o)/\dS (c.m k)=some b
structure Ext (F:Nat->Prop) (w w':World):Prop where
 os:w'.os=w.os
 tape:w'.tape=w.tape
 output:w'.output=w.output
 size:w.heap.size<=w'.heap.size
 block: ∀b,b<w.heap.size-> ¬F b->w'.heap[b]? =w.heap[b]?
theorem Ext.trans {F D:Nat->Prop} {w w' J:World} (h:Ext F w w') (h':Ext D w' J) (L: ∀b,b<w.heap.size->D b->F b):Ext F w J:=
 ⟨h'.os.trans h.os,h'.tape.trans h.tape,h'.output.trans h.output,an4 h.size h'.size,λb h1 h2=>(h'.block b (au5 h1 h.size) λq=>h2 (L b h1 q)).trans (h.block b h1 h2)⟩
abbrev iB (w w':World):Prop:=Ext (λ_=>False) w w'
theorem Ext.refl (F:Nat->Prop) (w:World):Ext F w w:=⟨rfl,rfl,rfl,Nat.le_refl _,λ_ _ _=>rfl⟩
theorem Ext.mono {F D:Nat->Prop} {w w':World} (h:Ext F w w') (J: ∀b,F b->D b):Ext D w w':=⟨h.os,h.tape,h.output,h.size,λb h1 h2=>h.block b h1 λq=>h2 (J b q)⟩
theorem iB.tO {w w':World} (h:Below w.heap.size w w'):iB w w':=⟨h.os,h.tape,h.output,h.size,λb D _=>h.block b D⟩
theorem iB.below {w w':World} (h:iB w w'):Below w.heap.size w w':=⟨h.os,h.tape,h.output,h.size,λb D=>h.block b D id⟩
theorem Ext.cell {F:Nat->Prop} {w w':World} (h:Ext F w w') {b i:Nat} {v:Value} (D: ¬F b) (hc:w.cell? ⟨b,i,none⟩=some v):w'.cell? ⟨b,i,none⟩=some v:=by rw[World.cell?_of_block (w:=w) (a:=⟨b,i,none⟩) (h.block b (World.block_lt_of_cell? w _ hc) D)];exact hc
def a0c (k:Nat):Bool:=Nat.ble 3000 k&&Nat.blt k 5000
theorem a2F {k:Nat}:a0c k=true<->3000<=k/\k<5000:=by simp[a0c]
theorem a3J {k:Nat} (h:k<3000\/5000<=k):a0c k=false:=by
 cases e:a0c k with
 |false=>rfl
 |true=>have:=a2F.1 e;omega
structure cQ where
 w:World
 A:Nat->Nat->Prop
 F:Nat->Prop
 Z:Nat->Prop
 m:Nat->Value
 H:Hp
 df:List Deferred
def tabB:Nat:=4
def TabOk (o:Option Obj):Prop:= ∃e D,o=some (.cells (Lib.pow10Tab.map λz=>Value.int .u64 z).toArray e D)
def arY (E:cQ):Prop:=(∀b i,E.A b i-> ¬E.F b/\ ¬E.Z b)/\ ¬E.F tabB/\TabOk E.w.heap[tabB]? /\ ¬E.Z tabB/\ ∀b,E.Z b-> ¬E.F b/\b<E.w.heap.size
def a3P (E:cQ) (k b:Nat):Prop:=(a0c k=true/\E.Z b)\/(a0c k=false/\(E.F b\/E.w.heap.size<=b))
theorem TabOk.lt {w:World} (h:TabOk w.heap[tabB]?):tabB<w.heap.size:=by obtain⟨e,D,h⟩:=h;exact vS h
structure Conc (E:cQ) (c:Cx) (h:Hp) (w:World):Prop where
 obj: ∀k o,h k=some o->nz c h w k o
 inj: ∀k k' b,Bl c h k b->Bl c h k' b->k=k'
 jX: ∀k b i,Bl c h k b-> ¬c.A b i
 lt: ∀b i,c.A b i->b<w.heap.size
 nE:arY E
 le: ∀b i,E.A b i->c.A b i
 new: ∀b i,c.A b i->E.A b i\/E.w.heap.size<=b\/E.F b
 own: ∀k b,Bl c h k b->a3P E k b
 ext:Ext E.F E.w w
 fV: ∀k o,E.H k=some o->(1000<=k/\k<3000)/\ ∃o',h k=some o'/\PL (E.m k) o (c.m k) o'
section
variable {E:cQ} {c:Cx} {h:Hp} {w:World}
theorem Conc.Oz (hC:Conc E c h w):TabOk w.heap[tabB]? :=by rw[hC.ext.block _ hC.nE.2.2.1.lt hC.nE.2.1];exact hC.nE.2.2.1
theorem Conc.a3K (hC:Conc E c h w) {k:Nat} (D:Bl c h k tabB):False:=by
 rcases hC.own k _ D with⟨_,q⟩ |⟨_,q |q⟩
 · exact hC.nE.2.2.2.1 q
 · exact hC.nE.2.1 q
 · have:=hC.nE.2.2.1.lt;omega
theorem Conc.fr (hC:Conc E c h w) {k b:Nat} (hk:a0c k=false) (D:Bl c h k b):E.F b\/E.w.heap.size<=b:=by
 rcases hC.own k b D with⟨q,_⟩ |⟨_,q⟩
 · grind
 · omega
theorem Conc.blt (hC:Conc E c h w) {k b:Nat} (F:Bl c h k b):b<w.heap.size:=by obtain⟨⟨o,h1⟩,D⟩:=F;exact(hC.obj k o h1).lt D
theorem Conc.put (hC:Conc E c h w) (k:Nat) {o':aX} {c':Cx} {h':Hp} {w':World} (U:h' k=some o') (J: ∀j,j≠k->h' j=h j/\c'.m j=c.m j) (F:c'.A=c.A) (M:Ext (Bl c h k) w w') (hm: ∀b,dS (c'.m k)=some b->Bl c h k b\/w.heap.size<=b) (ah:a0c k=false\/w'=w)
  {s:Bool} (hs:s=true->E.H k=none) (hl: ∀o,h k=some o->OL s (c.m k) o (c'.m k) o') (ho:eN c h w c' h' w'->nz c' h' w' k o'):Conc E c' h' w'/\eN c h w c' h' w':=by
 have O:eN c h w c' h' w':=by
  refine⟨λj o e=>?_,λb i v h1 h2=>⟨by rw[F];exact h1,M.cell (λq=>hC.jX k b i q h1) h2⟩⟩
  by_cases q:j=k
  · subst q;exact⟨o',U,(hl o e).up⟩
  · exact⟨o,(J j q).1.trans e,by rw[(J j q).2];exact OL.refl _ _ _⟩
 have L: ∀j b,Bl c' h' j b->Bl c h j b\/(j=k/\w.heap.size<=b):=λj b ⟨h1,h3⟩=>by grind[Bl]
 refine⟨⟨λj o e=>?_,λj j' b h1 h2=>?_,λj b i h1 h2=>?_,λb i e=>?_,hC.nE,?_,?_,λj b h1=>?_,?_,λj o e=>⟨(hC.fV j o e).1,?_⟩⟩,O⟩
 · by_cases q:j=k
   · grind
   · rw[(J j q).1] at e;have Z:=hC.obj j o e;exact Z.imp (λ_ _=>CR.fL O) (J j q).2 λb Y=>M.block b (Z.lt Y) λz=>q (hC.inj j k b ⟨⟨_,e⟩,Y⟩ z)
 · rcases L j b h1 with D |⟨D,a2⟩<;>rcases L j' b h2 with N |⟨N,b2⟩
   · exact hC.inj j j' b D N
   · have:=hC.blt D;omega
   · have:=hC.blt N;omega
   · omega
 · rw[F] at h2;rcases L j b h1 with D |⟨_,a2⟩
   · exact hC.jX j b i D h2
   · have:=hC.lt b i h2;omega
 · rw[F] at e;exact au5 (hC.lt b i e) M.size
 · rw[F];exact hC.le
 · rw[F];exact hC.new
 · rcases L j b h1 with D |⟨D,a2⟩
   · exact hC.own j b D
   · subst D;rcases ah with q |q
     · exact .inr ⟨q,.inr (an4 hC.ext.size a2)⟩
     · have:=(ho O).lt h1.2;grind
 · rcases ah with q |q
   · exact hC.ext.trans M λb h1 h2=>(hC.fr q h2).resolve_right (by omega)
   · rw[q];exact hC.ext
 · obtain⟨o1,h1,h2⟩:=(hC.fV j o e).2;by_cases q:j=k
   · subst q;cases s with
     |true=>grind
     |false=>exact⟨o',U,h2.trans (hl _ h1).pl⟩
   · grind
theorem Conc.A9 (hC:Conc E c h w) {c':Cx} {h':Hp} (hk: ∀k o',h' k=some o'->nz c' h' w k o'/\ ∀b,dS (c'.m k)=some b->Bl c h k b) (h1: ∀b i,c.A b i->c'.A b i)
  (h2: ∀b i,c'.A b i->c.A b i\/ ∃k,Bl c h k b/\h' k=none/\a0c k=false) (hp: ∀k o,E.H k=some o-> ∃o',h' k=some o'/\PL (E.m k) o (c'.m k) o'):Conc E c' h' w:=by
 have F: ∀k b,Bl c' h' k b->Bl c h k b:=λk b ⟨⟨o,e⟩,M⟩=>(hk k o e).2 b M;refine⟨λk o e=>(hk k o e).1,λk J b e L=>hC.inj k J b (F _ _ e) (F _ _ L),λk b i e L=>?_,λb i e=>?_,hC.nE,λb i e=>h1 _ _ (hC.le _ _ e),λb i e=>?_,λk b e=>hC.own k b (F _ _ e),hC.ext,λk o e=>⟨(hC.fV k o e).1,hp k o e⟩⟩
 · rcases h2 b i L with D |⟨J,D,U,_⟩
   · exact hC.jX k b i (F _ _ e) D
   · obtain rfl:=hC.inj k J b (F _ _ e) D;obtain⟨⟨o,O⟩,_⟩:=e;grind
 · rcases h2 b i e with D |⟨J,D,_⟩
   · exact hC.lt b i D
   · exact hC.blt D
 · rcases h2 b i e with D |⟨J,D,_,N⟩
   · exact hC.new b i D
   · exact .inr (hC.fr N D).symm
theorem Conc.Gw (hC:Conc E c h w) {w':World} (J:iB w w') (F:Nat->Nat->Prop) (h1: ∀b i,c.A b i->F b i) (h2: ∀b i,F b i->c.A b i\/(w.heap.size<=b/\b<w'.heap.size)):Conc E ⟨c.m,F⟩ h w'/\eN c h w ⟨c.m,F⟩ h w':=by
 have M:eN c h w ⟨c.m,F⟩ h w':=⟨λk o e=>⟨o,e,OL.refl _ _ _⟩,λb i v O U=>⟨h1 _ _ O,J.cell id U⟩⟩;refine⟨⟨λk o e=>?_,hC.inj,λk b i e N=>?_,λb i e=>?_,hC.nE,λb i e=>h1 _ _ (hC.le _ _ e),λb i e=>?_,hC.own,hC.ext.trans J λ_ _ q=>q.elim,hC.fV⟩,M⟩
 · have L:=hC.obj k o e;exact L.imp (λ_ _=>CR.fL M) rfl λb Y=>J.block b (L.lt Y) id
 · rcases h2 _ _ N with D |D
   · exact hC.jX k b i e D
   · have:=hC.blt (show Bl c h k b from e);omega
 · rcases h2 _ _ e with D |D
   · exact au5 (hC.lt _ _ D) J.size
   · omega
 · rcases h2 _ _ e with D |D
   · exact hC.new _ _ D
   · exact .inr (.inl (an4 hC.ext.size D.1))
theorem Conc.same (hC:Conc E c h w) {w':World} (D:iB w w'):Conc E c h w'/\eN c h w c h w':=hC.Gw D c.A (λ_ _ h=>h) λ_ _ h=>.inl h
end
abbrev cG:=List (Nat×DS)
abbrev aG:=List (Nat×aX)
structure aI where
 sl:cG
 hp:aG
def bU:cG->Nat->DS
 |[],_=>.dead
 |(D,o)::h,k=>if D=k then o else bU h k
def oy:cG->Nat->DS->cG
 |[],k,o=>[(k,o)]
 |(D,o')::h,k,o=>if D=k then(k,o)::h else(D,o')::oy h k o
def mV (s:cG) (d:Option Tmp) (v:DS):cG:=match d with|some d=>oy s d v |none=>s
def aj:aG->Hp
 |[],_=>none
 |(D,o)::h,k=>if D=k then some o else aj h k
def oset:aG->Nat->aX->aG
 |[],k,o=>[(k,o)]
 |(D,o')::h,k,o=>if D=k then(k,o)::h else(D,o')::oset h k o
theorem jh (h:aG) (k:Nat) (o:aX):aj (oset h k o)=bY (aj h) k (some o):=by
 funext j
 induction h with
 |nil=>simp [oset,aj,bY,eq_comm]
 |cons p t D=>
  obtain⟨q,u⟩:=p;unfold oset aj;by_cases h:q=k
  · subst h;simp[aj,bY];grind
  · simp[if_neg h,aj,D,bY];by_cases h2:q=j
    · grind
    · grind
def im {α:Type} (f:Nat->α) (d:Option Nat) (v:α):Nat->α:=match d with|some d=>bY f d v |none=>f
theorem Fo (s:cG) (d:Option Tmp) (v:DS):bU (mV s d v)=im (bU s) d v:=by
 cases d with
 |none=>rfl
 |some k=>
  funext j;show bU (oy s k v) j=bY (bU s) k v j
  induction s with
  |nil=>simp [oy,bU,bY,eq_comm]
  |cons p t D=>
   obtain⟨q,u⟩:=p;unfold oy bU;by_cases h:q=k
   · subst h;simp[bU,bY];grind
   · simp[if_neg h,bU,D,bY];by_cases h2:q=j
     · grind
     · grind
def J (c:Prop) [Decidable c] {R:Type} (k:Option R):Option R:=if c then k else none
def ag {α:Type} (l:List α) (i:Int):Option α:=if 0<=i then l[i.toNat]? else none
def aa (k:IntKind) (n:Int):Prop:=k.min<=n/\n<=k.max
theorem Ti (n:Int):aa .i64 n=(-9223372036854775808<=n/\n<=9223372036854775807):=rfl
theorem wK (n:Int):aa .u8 n=(0<=n/\n<=255):=rfl
theorem Th (n:Int):aa .u32 n=(0<=n/\n<=4294967295):=rfl
theorem aqG (n:Int):aa .u64 n=(0<=n/\n<=18446744073709551615):=rfl
theorem Zv {k:IntKind} {n:Int} (h:aa k n):k.wrap n=n:=by unfold aa at h;cases k<;>simp [IntKind.min,IntKind.max,IntKind.wrap,IntKind.bits,IntKind.signed] at h⊢ <;>(try split)<;>omega
def ac7 (k:IntKind) (n:Int):Bool:=match k,n with
 |.i64,.ofNat m=>Nat.ble m 9223372036854775807
 |.i64,.negSucc m=>Nat.ble m 9223372036854775807
 |.u64,.ofNat m=>Nat.ble m 18446744073709551615
 |.u64,.negSucc _=>false
 |.u32,.ofNat m=>Nat.ble m 4294967295
 |.u32,.negSucc _=>false
 |.u8,.ofNat m=>Nat.ble m 255
 |.u8,.negSucc _=>false
 |k,n=>decide (k.min<=n/\n<=k.max)
theorem aph {k:IntKind} {n:Int}:ac7 k n=true<->aa k n:=by
 unfold ac7;split
 all_goals simp[Ti,wK,Th,aqG]
 all_goals first |omega |exact Iff.rfl
instance instDecidableInK (k:IntKind) (n:Int):Decidable (aa k n):=decidable_of_iff _ aph
def nB (P:Program) (ty:TypeId):Option (Bool×Nat):=
 match P.underlying ty,P.info? ty with
 |some (.struct _),some i=>some (true,i.size)
 |some (.array _ _),some i=>some (true,i.size)
 |some _,some i=>some (false,i.size)
 |_,_=>none
def fU (P:Program) (ty:TypeId):Option (TypeId×Nat×Nat):=
 match P.underlying ty with
 |some (.slice e)=>match P.info? e with
  |some i=>match i.zero with
   |some z=>if z.cells.size=i.size/\0<i.size then some (e,i.size,i.bytes) else none
   |none=>none
  |none=>none
 |_=>none
def HY (P:Program) (ty:TypeId) (f:Nat):Option (Nat×Nat×Bool):=
 match P.underlying ty with
 |some (.struct D)=>match D[f]? with
  |some d=>match nB P d.type with
   |some (agg,n)=>if 0<n then some (d.offset,n,agg) else none
   |none=>none
  |none=>none
 |_=>none
def vf (P:Program) (ty:TypeId):Option (List Value):=
 match P.info? ty with
 |some i=>match i.zero with
  |some z=>some z.cells.toList
  |none=>none
 |none=>none
def VB (P:Program) (ty:TypeId):Option (List (Nat×Nat)×List Value):=
 match P.underlying ty,vf P ty with
 |some (.struct D),some z=>if D.toList.all (λf=>(P.info? f.type).isSome)=true then some (D.toList.map (λf=>(f.offset,((P.info? f.type).map (·.size)).getD 0)),z) else none
 |_,_=>none
def arr (P:Program) (ty:TypeId):Option (Nat×Nat):=
 match P.underlying ty with
 |some (.array l e)=>match P.info? e with
  |some i=>some (l,i.size)
  |none=>none
 |_=>none
def MH (P:Program) (ty:TypeId):Bool:=match P.underlying ty with|some (.pointer _)=>true |_=>false
def ac6 (P:Program) (ty:TypeId):Option IntKind:=match P.underlying ty with|some (.int k)=>some k |_=>none
def tY (P:Program) (ty:TypeId):Bool:=match P.underlying ty with|some .string=>true |_=>false
def Tf (P:Program) (ty:TypeId):Bool:=match P.underlying ty with|some .bool=>true |_=>false
def aqD (op:BinOp):Bool:=match op with|.shl=>true |.shr=>true |_=>false
def xa (P:Program):Nat->TypeId->Option Ty
 |0,_=>none
 |f+1,ty=>
  match P.underlying ty with
  |some (.int k)=>some (.int k)
  |some .bool=>some .bool
  |some .string=>some .str
  |some (.float k)=>some (.gB k)
  |some (.slice e)=>match xa P f e with|some t=>some (.sl t) |none=>none
  |some (.pointer e)=>match xa P f e with|some t=>some (.opt t) |none=>none
  |some (.array n e)=>match xa P f e with|some t=>some (Nat.rec .unit (λi r=>match i with|0=>t |_=>.pair t r) n) |none=>none
  |some (.struct D)=>D.toList.foldr (λd r=>match xa P f d.type,r with|some t,some none=>some (some t) |some t,some (some u)=>some (some (.pair t u)) |_,_=>none) (some none)|>.map (λo=>o.getD .unit)
  |_=>none
def rC:(t:Ty)->DC->Option (den t)
 |t,.v D x=>match mT D t with
  |some h=>some (h.down▸x)
  |none=>match t,D,x with
   |.opt a,.ptr b,x=>match mT b a with|some h=>some (some (h.down▸x)) |none=>none
   |_,_,_=>none
 |.bool,.kb b=>some b
 |.sl _,.nil=>some []
 |.sl _,.z=>some []
 |.opt _,.np=>some none
 |_,_=>none
def qS {t:Ty} (o:Option (den t)) (r:List DC):Option (den t×List DC):=match o with|some x=>some (x,r) |none=>none
def lV (f:(t:Ty)->DC->Option (den t)):(t:Ty)->List DC->Option (den t×List DC)
 |.pair a b,l=>match lV f a l with
  |some (x,r)=>match lV f b r with
   |some (y,q)=>some ((x,y),q)
   |none=>none
  |none=>none
 |.unit,l=>some ((),l)
 |.int k,c::r=>qS (f (.int k) c) r
 |.bool,c::r=>qS (f .bool c) r
 |.str,c::r=>qS (f .str c) r
 |.gB k,c::r=>qS (f (.gB k) c) r
 |.sl t,c::r=>qS (f (.sl t) c) r
 |.ptr t,c::r=>qS (f (.ptr t) c) r
 |.opt t,c::r=>qS (f (.opt t) c) r
 |.val,c::r=>qS (f .val c) r
 |_,[]=>none
def pF {α:Type}:Option (α×List DC)->Option α
 |some (x,[])=>some x
 |_=>none
def qQ (t:Ty) (l:List DC):Option (den t):=pF (lV rC t l)
def cellsD:DS->Option (List DC)
 |.c x=>some [x]
 |.agg l=>some l
 |.fn (.func f) [] []=>some [.mu f]
 |_=>none
def acU (t:Ty) (x:DS):Option (den t):=match cellsD x with|some l=>qQ t l |none=>none
def Gg (t:Ty):Nat->List (Nat×DS)->Option (List (den t))
 |_,[]=>some []
 |k,(i,x)::r=>if i=k then(match acU t x,Gg t (k+1) r with|some a,some l=>some (a::l) |_,_=>none) else none
def vD:Value->Option DC
 |.bool b=>some (.kb b)
 |.int k n=>some (.v (.int k) n)
 |.float k n=>some (.v (.gB k) n)
 |.string s=>some (.v .str s.data.toList)
 |.slice none 0 0=>some .nil
 |.pointer none=>some .np
 |.nilFunc=>some .nf
 |_=>none
def xH:List Value->Option (List DC)
 |[]=>some []
 |x::r=>match vD x,xH r with|some c,some l=>some (c::l) |_,_=>none
def TT:Value->Option DS
 |.agg cs=>match xH cs.toList with|some l=>some (.agg l) |none=>none
 |x=>match vD x with|some c=>some (.c c) |none=>none
def bB (s:cG):Operand->Option DS
 |.tmp t=>some (bU s t)
 |.const v=>TT v
 |.global _=>none
 |.func f=>some (.fn (.func f) [] [])
def pg (agg:Bool) (n:Nat) (l:List DC) (i:Nat):DS:=if agg then .agg ((l.drop i).take n) else .c (l.getD i .dead)
def rowAt (H:aG) (k g:Nat):Option aX:=
 match aj H k with
 |some (.row hs e t l)=>match Nat.beq g hs.length with|true=>some (.row hs e t l) |false=>none
 |some (.bI hs e t b l q)=>match Nat.beq g hs.length with|true=>some (.bI hs e t b l q) |false=>none
 |_=>none
section
variable {R:Type}
def only (b:Bool) (k:Option R):Option R:=match b with|true=>k |false=>none
def er (x:Option DS) (k:DS->Option R):Option R:=match x with|some v=>k v |none=>none
def T5 (P:Program) (H:aG) (ty:TypeId) (x:DS) (K:DS->Option R):Option R:=
 match nB P ty,x with
 |some (agg,n),.c (.ptr k i)=>match aj H k with
  |some (.var D cells)=>only (!Nat.beq D a0i&&((agg||n==1)&&decide (i+n<=cells.length))) (K (pg agg n cells i))
  |_=>none
 |some (agg,n),.c (.el t y i)=>only ((agg||n==1)&&decide (i+n<=wid t)) (K (pg agg n (cA t y) i))
 |some (agg,n),.c (.v (.ptr t) y)=>only ((agg||n==1)&&decide (0+n<=wid t)) (K (pg agg n (cA t y) 0))
 |some (agg,n),.c (.ow k g (.el i j))=>match rowAt H k g with
  |some (.row _ _ t l)=>only ((agg||n==1)&&decide (j+n<=wid t)) (l[i]?.bind λy=>K (pg agg n (cA t y) j))
  |some (.bI _ _ t e l last)=>only ((agg||n==1)&&decide (j+n<=wid t)) (only (!e) (l[i]?.bind λy=>K (pg agg n (cA t y) j)))
  |_=>none
 |some (agg,n),.c (.ow k g (.s9 j))=>match rowAt H k g with
  |some (.bI _ _ t e l last)=>only ((agg||n==1)&&decide (j+n<=last.length)) (only (last.length==wid t&& !e) (K (pg agg n last j)))
  |_=>none
 |_,_=>none
def Rb (P:Program) (H:aG) (ty:TypeId) (x:DS) (f:Nat) (K:DS->Option R):Option R:=
 match HY P ty f,x with
 |some (off,_,_),.c (.ptr k i)=>K (.c (.ptr k (i+off)))
 |some (off,_,_),.c (.el t y j)=>K (.c (.el t y (j+off)))
 |some (off,_,_),.c (.v (.ptr t) y)=>K (.c (.el t y off))
 |some (off,_,_),.c (.ow k g (.el i j))=>only (rowAt H k g).isSome (K (.c (.ow k g (.el i (j+off)))))
 |some (off,_,_),.c (.ow k g (.s9 j))=>only (rowAt H k g).isSome (K (.c (.ow k g (.s9 (j+off)))))
 |_,_=>none
def AH:Nat->Int->(Nat->Option R)->Option R
 |0,_,_=>none
 |n+1,i,K=>if i=n then K n else AH n i K
def Q7 (P:Program) (H:aG) (ty:TypeId) (x D:DS) (K:DS->Option R):Option R:=
 match fU P ty,x,D with
 |some (_,n,_),.c (.v (.sl t) l),.c (.v (.int _) i)=>only (wid t==n) ((ag l i).bind λy=>K (.c (.el t y 0)))
 |some (_,n,_),.c (.ow k g .all),.c (.v (.int _) i)=>match rowAt H k g with
  |some (.row _ _ t l)=>only (wid t==n) (J (0<=i/\i<l.length) (K (.c (.ow k g (.el i.toNat 0)))))
  |some (.bI _ _ t e l _)=>only (wid t==n) (only (!e) (J (0<=i/\i<=l.length) (cond (decide (i=l.length)) (K (.c (.ow k g (.s9 0)))) (K (.c (.ow k g (.el i.toNat 0)))))))
  |_=>none
 |some (_,n,_),.c (.ow k g (.nC i)),.c (.v (.int _) q)=>match rowAt H k g with
  |some (.row _ _ t l)=>only (wid t==n) (J (0<=q/\q<((l.length - i:Nat):Int)) (K (.c (.ow k g (.el (i+q.toNat) 0)))))
  |_=>none
 |none,.c (.el t y j),.c (.v (.int _) i)=>match arr P ty with
  |some (len,n)=>AH len i λq=>K (.c (.el t y (j+q*n)))
  |none=>none
 |none,.c (.ptr k j),.c (.v (.int _) i)=>match arr P ty with
  |some (len,n)=>AH len i λq=>K (.c (.ptr k (j+q*n)))
  |none=>none
 |_,_,_=>none
def xe (n:Int):DS:=.c (.v (.int .i64) n)
def ik (b:Bool):DS:=.c (.v .bool b)
def Ul (P:Program) (H:aG) (ty:TypeId) (x:DS) (K:DS->Option R):Option R:=
 match x with
 |.c (.v (.sl _) l)=>only (fU P ty).isSome (K (xe l.length))
 |.c (.ow k g .all)=>match rowAt H k g with
  |some (.row _ _ _ l)=>only (fU P ty).isSome (K (xe l.length))
  |some (.bI _ _ _ e l _)=>only (fU P ty).isSome (K (xe ((cond e 0 (l.length+1):Nat):Int)))
  |_=>none
 |.c (.ow k g (.nC i))=>match rowAt H k g with
  |some (.row _ _ _ l)=>only (fU P ty).isSome (K (xe ((l.length - i:Nat):Int)))
  |_=>none
 |.c .nil=>only (fU P ty).isSome (K (xe 0))
 |.c .z=>only (fU P ty).isSome (K (xe 0))
 |.c (.v .str s)=>only (tY P ty) (K (xe s.length))
 |_=>none
def H7 (k:IntKind) (n:Int) (K:DS->Option R):Option R:=match k with
 |.u64=>K (.c (.v (.int .u64) (IntKind.wrap .u64 n)))
 |k=>J (aa k n) (K (.c (.v (.int k) n)))
def Um (op:BinOp) (k:IntKind) (a b:Int) (K:DS->Option R):Option R:=
 match op with
 |.add=>H7 k (a+b) K
 |.sub=>H7 k (a - b) K
 |.mul=>H7 k (a*b) K
 |.eql=>K (ik (decide (a=b)))
 |.neq=>K (ik (!decide (a=b)))
 |.lss=>K (ik (decide (a<b)))
 |.leq=>K (ik (decide (a<=b)))
 |.gtr=>K (ik (decide (b<a)))
 |.geq=>K (ik (decide (b<=a)))
 |.quo=>J (b≠0) (K (.c (.v (.int k) (k.wrap (a.tdiv b)))))
 |.rem=>J (b≠0) (K (.c (.v (.int k) (a.tmod b))))
 |.and=>K (.c (.v (.int k) (bits .and k a b)))
 |.or=>K (.c (.v (.int k) (bits .or k a b)))
 |.xor=>K (.c (.v (.int k) (bits .xor k a b)))
 |.andNot=>K (.c (.v (.int k) (bits .andNot k a b)))
 |_=>none
def Tx (op:BinOp) (k:IntKind) (a b:Int) (K:DS->Option R):Option R:=
 match op with
 |.shl=>J (0<=b) (K (.c (.v (.int k) (k.wrap (a*2 ^(min b.toNat k.bits))))))
 |.shr=>J (0<=b) (K (.c (.v (.int k) (a.fdiv (2 ^(min b.toNat k.bits))))))
 |_=>none
def Ue (op:BinOp) (a b:List UInt8) (K:DS->Option R):Option R:=
 match op with
 |.add=>J (a.length+b.length<=9223372036854775807) (K (.c (.v .str (a++b))))
 |.eql=>K (ik (decide (a=b)))
 |.neq=>K (ik (!decide (a=b)))
 |.lss=>K (ik (Op.bytesLess a b))
 |.gtr=>K (ik (!(Op.bytesLess a b||decide (a=b))))
 |.leq=>K (ik (Op.bytesLess a b||decide (a=b)))
 |.geq=>K (ik (!(Op.bytesLess a b)))
 |_=>none
def rB (op:BinOp) (K:Bool->Option R) (b:Bool):Option R:=
 match op with
 |.eql=>K b
 |.neq=>K (!b)
 |_=>none
def oF (b:Bool):DS:=.c (.kb b)
def fB (op:BinOp) (k:FloatKind) (x y:Nat):Option Bool:=
 match op with
 |.eql=>some (k.format.order x y==some .eq)
 |.neq=>some (k.format.order x y !=some .eq)
 |.lss=>some (k.format.order x y==some .lt)
 |.leq=>some (k.format.order x y==some .lt||k.format.order x y==some .eq)
 |.gtr=>some (k.format.order x y==some .gt)
 |.geq=>some (k.format.order x y==some .gt||k.format.order x y==some .eq)
 |_=>none
def MP:DC->Option Bool
 |.v .bool b=>some b
 |.kb b=>some b
 |_=>none
def Ni (H:aG):DC->Bool
 |.ptr _ _=>true
 |.el _ _ _=>true
 |.v (.ptr _) _=>true
 |.ow k g (.el _ _)=>(rowAt H k g).isSome
 |.ow k g (.s9 _)=>(rowAt H k g).isSome
 |_=>false
def Gx:DC->DC->Option Bool
 |.v (.int k) a,.v (.int D) b=>if k=D then some (decide (a=b)) else none
 |.v .bool a,.v .bool b=>some (a==b)
 |.v .bool a,.kb b=>some (a==b)
 |.kb a,.v .bool b=>some (a==b)
 |.kb a,.kb b=>some (a==b)
 |.v .str a,.v .str b=>some (decide (a=b))
 |_,_=>none
def Bo:List DC->List DC->Option Bool
 |[],[]=>some true
 |[c],[d]=>Gx c d
 |c::r,d::q=>match Gx c d,Bo r q with|some a,some b=>some (a&&b) |_,_=>none
 |_,_=>none
def jM (P:Program):Nat->TypeId->Option (List Nat)
 |0,_=>none
 |f+1,ty=>match P.underlying ty with
  |some (.int _)=>some [0]
  |some .bool=>some [1]
  |some .string=>some [2]
  |some (.struct D)=>match P.stoodInHeld ty with|true=>none |false=>A0 P f 0 D.toList
  |some (.array len e)=>match jM P f e,P.info? e with
   |some l,some i=>match Nat.beq i.size l.length with|true=>some (List.replicate len l).flatten |false=>none
   |_,_=>none
  |_=>none
where A0 (P:Program):Nat->Nat->List Field->Option (List Nat)
 |0,_,_=>none
 |_+1,_,[]=>some []
 |f+1,off,d::r=>match jM P f d.type,P.info? d.type with
  |some l,some i=>match Nat.beq d.offset off,Nat.beq i.size l.length,decide (d.name≠ "_") with
   |true,true,true=>match A0 P f (off+l.length) r with|some q=>some (l++q) |none=>none
   |_,_,_=>none
  |_,_=>none
def ac9:Nat->DC->Bool
 |0,.v (.int _) _=>true
 |1,.v .bool _=>true
 |1,.kb _=>true
 |2,.v .str _=>true
 |_,_=>false
def Gl:List Nat->List DC->Bool
 |[],[]=>true
 |k::r,v::q=>ac9 k v&&Gl r q
 |_,_=>false
def M1 (P:Program) (ty:TypeId):Bool:=match P.underlying ty with|some (.func _ _ _)=>true |_=>false
def Ut (P:Program) (H:aG) (op:BinOp) (ty:TypeId) (x y:DS) (K:DS->Option R):Option R:=
 match x,y with
 |.c (.v (.int k) a),.c (.v (.int D) b)=>match aqD op with
  |true=>Tx op k a b K
  |false=>if k=D then Um op k a b K else none
 |.c (.v .str a),.c (.v .str b)=>Ue op a b K
 |.c (.v (.gB k) a),.c (.v (.gB D) b)=>if k=D then(match fB op k a b with|some b=>K (ik b) |none=>none) else none
 |.agg l,.agg q=>match Bo l q,jM P 20 ty,P.eqGuardType P.depth ty,nB P ty with
  |some b,some ls,false,some (true,_)=>match Gl ls l&&Gl ls q with
   |true=>rB op (λb=>K (ik b)) b
   |false=>none
  |_,_,_,_=>none
 |.fn (.func _) _ _,.c .nf=>only (M1 P ty) (rB op (λb=>K (oF b)) false)
 |.c (.mu _),.c .nf=>only (M1 P ty) (rB op (λb=>K (oF b)) false)
 |.c .nil,.c .nil=>only (fU P ty).isSome (rB op (λb=>K (oF b)) true)
 |.c .np,.c .np=>only (MH P ty) (rB op (λb=>K (oF b)) true)
 |.c c,.c .np=>only (MH P ty&&Ni H c) (rB op (λb=>K (oF b)) false)
 |.c c,.c d=>match MP c,MP d with
  |some a,some b=>only (Tf P ty) (rB op (λb=>K (ik b)) (a==b))
  |_,_=>none
 |_,_=>none
def unD (op:UnOp) (x:DS) (K:DS->Option R):Option R:=
 match op,x with
 |.not,.c (.v .bool b)=>K (ik (!b))
 |.not,.c (.kb b)=>K (.c (.kb (!b)))
 |.neg,.c (.v (.int k) n)=>J (aa k (0 - n)) (K (.c (.v (.int k) (0 - n))))
 |.xor,.c (.v (.int k) n)=>K (.c (.v (.int k) (bits .xor k (if k.signed then-1 else k.max) n)))
 |_,_=>none
def acM (P:Program) (src dst:TypeId) (x:DS) (K:DS->Option R):Option R:=
 match x with
 |.c (.v (.int k) n)=>match ac6 P dst with
  |some D=>only (P.underlying src).isSome (K (.c (.v (.int D) (D.wrap n))))
  |none=>none
 |.c (.v .str s)=>only (tY P src&&tY P dst) (K (.c (.v .str s)))
 |_=>none
def VA:Sum DC (List DC)->DS
 |.inl x=>.c x
 |.inr l=>.agg l
def M4 (places:List (Nat×Nat)) (cells:List DC):List (Nat×DS)->Option (List DC)
 |[]=>some cells
 |(i,v)::rest=>
  match places[i]?,cellsD v with
  |some (off,size),some l=>if l.length=size/\off+size<=cells.length then M4 places (cells.take off++l++cells.drop (off+l.length)) rest else none
  |_,_=>none
def F6 (s:cG):List (Nat×Operand)->Option (List (Nat×DS))
 |[]=>some []
 |(i,x)::r=>match bB s x,F6 s r with|some v,some l=>some ((i,v)::l) |_,_=>none
def Bh (x:Option DS) (d:Int):Option Int:=
 match x with
 |none=>some d
 |some (.c (.v (.int _) n))=>some n
 |_=>none
def OE:DS->Bool
 |.c .z=>true
 |.c .nil=>true
 |_=>false
def xP (s:cG):Option Operand->Option (Option DS)
 |none=>some none
 |some x=>match bB s x with|some v=>some (some v) |none=>none
def ac3:DC->Option LC
 |.v t x=>match lE t with|true=>some (.v t x) |false=>none
 |.kb b=>some (.v .bool b)
 |.nil=>some .nil
 |_=>none
def uv:List DC->Option (List LC)
 |[]=>some []
 |c::r=>match ac3 c,uv r with|some a,some q=>some (a::q) |_,_=>none
def Ud:LC->DC
 |.v t x=>.v t x
 |.nil=>.nil
def Nt (t:Ty):DC->Option (den t)
 |.v D x=>match mT D t with|some h=>some (h.down▸x) |none=>none
 |_=>none
def MX (t:Ty) (y:DS):Option (List (den t)):=
 match y with
 |.c .nil=>some []
 |.c (.v D x)=>rC (.sl t) (.v D x)
 |_=>none
def asI:Value->Bool
 |.slice _ _ _=>false
 |_=>true
def MR (P:Program) (e:TypeId) (t:Ty):Option (den t):=
 match vf P e with
 |some z=>match xH z,z.all asI with
  |some D,true=>qQ t D
  |_,_=>none
 |none=>none
def kt (H:aG) (d:Nat):Bool:=match aj H d with|none=> !a0c d |some _=>false
theorem FN {H:aG} {k:Nat} (h:kt H k=true):aj H k=none:=by grind[kt]
theorem a0z {H:aG} {k:Nat} (h:kt H k=true):a0c k=false:=by grind[kt]
def Mn (H:aG) (d:Nat) (e:TypeId) (t:Ty) (l:List (den t)) (K:DS->aG->Option R):Option R:=only (kt H d) (K (.c (.ow d 0 .all)) (oset H d (.row [] e t l)))
def wF (P:Program) (H:aG) (L:Bool) (dst:Option Tmp) (ty:TypeId) (x y:DS) (K:DS->aG->Option R):Option R:=
 match fU P ty,x with
 |some (e,n,b),.c (.ow k g .all)=>only (!L&&decide (b<=1000)&& !a0c k) (match rowAt H k g,y with
  |some (.row hs D t rows),y=>match MX t y with
   |some more=>only (decide (e=D)&&wid t==n) (J (rows.length+more.length<=1000000000) (K (.c (.ow k (hs.length+1) .all)) (oset H k (.row (hs++[some rows.length]) D t (rows++more)))))
   |none=>none
  |some (.bI hs D t F rows last),.c (.Bj q)=>match pF (lV Nt t last) with
   |some x'=>only (decide (e=D)&&wid t==n&&decide (q.length=wid t)) (J (rows.length+2<=1000000000) (K (.c (.ow k (hs.length+1) .all)) (oset H k (.bI (hs++[some (cond F 0 (rows.length+1))]) D t false (cond F [] (rows++[x'])) (q.map Ud)))))
   |none=>none
  |_,_=>none)
 |some (e,n,b),x=>only (OE x&&decide (b<=1000)) (match L,y,dst,xa P 20 e with
  |true,.c (.v (.sl t) more),_,_=>only (wid t==n) (J (more.length<=1000000000) (K (.c (.v (.sl t) more)) H))
  |false,y,some d,some t=>match MX t y with
   |some more=>only (wid t==n) (J (more.length<=1000000000) (Mn H d e t more K))
   |none=>none
  |_,_,_,_=>none)
 |_,_=>none
def wH (P:Program) (H:aG) (ty:TypeId) (x:DS) (F D:Option DS) (K:DS->aG->Option R):Option R:=
 match x,fU P ty with
 |.c (.v (.sl t) rows),some (_,n,_)=>match Bh F 0,Bh D rows.length with
  |some l,some h=>only (wid t==n) (J (0<=l/\l<=h/\h<=rows.length) (K (.c (.v (.sl t) ((rows.take h.toNat).drop l.toNat))) H))
  |_,_=>none
 |.c (.v .str s),_=>match Bh F 0,Bh D s.length with
  |some l,some h=>only (tY P ty) (J (0<=l/\l<=h/\h<=s.length) (K (.c (.v .str ((s.take h.toNat).drop l.toNat))) H))
  |_,_=>none
 |.c (.ow k g .all),some (_,n,_)=>match rowAt H k g,F,D with
  |some (.row hs e t l),some (.c (.v (.int _) i)),none=>only (wid t==n) (J (0<=i/\i<=(l.length:Int)/\0<l.length) (K (.c (.ow k g (.nC i.toNat))) H))
  |some (.row hs e t l),none,some (.c (.v (.int _) i))=>only (wid t==n&&(Nat.blt k 1000||Nat.ble 5000 k)) (J (0<=i/\i<=(l.length:Int)/\0<l.length) (K (.c (.ow k (hs.length+1) .all)) (oset H k (.row (List.replicate (hs.length+1) none) e t (l.take i.toNat)))))
  |_,_,_=>none
 |_,_=>none
def MB (P:Program) (H:aG) (ty:TypeId) (x y:DS) (K:DS->aG->Option R):Option R:=
 match nB P ty,x,cellsD y with
 |some (_,n),.c (.ptr k i),some l=>match aj H k with
  |some (.var D cells)=>only (!a0c k&& !Nat.beq D a0i&&(decide (l.length=n)&&decide (i+n<=cells.length))) (K (.fk []) (oset H k (.var D (cells.take i++l++cells.drop (i+l.length)))))
  |_=>none
 |some (_,n),.c (.ow k g p),some l=>match rowAt H k g,p with
  |some (.row hs e t rows),.el i j=>only (!a0c k&&(decide (l.length=n)&&decide (j+n<=wid t))) (rows[i]?.bind λq=>match qQ t ((cA t q).take j++l++(cA t q).drop (j+l.length)) with
   |some F=>K (.fk []) (oset H k (.row hs e t (rows.set i F)))
   |none=>none)
  |some (.bI hs e t b rows last),.s9 j=>only (decide (l.length=n)&&decide (j+n<=wid t)&&decide (last.length=wid t)) (only (!a0c k&& !b) (K (.fk []) (oset H k (.bI hs e t b rows (last.take j++l++last.drop (j+l.length))))))
  |_,_=>none
 |_,_,_=>none
def a2a (P:Program) (H:aG) (d:Nat) (ty:TypeId) (x:DS) (K:DS->aG->Option R):Option R:=
 match x with
 |.c (.v .str t)=>only (kt H d&&tY P ty) (K (.c (.ptr d 0)) (oset H d (.var a0i [.v .str t,.v (.int .i64) 0])))
 |_=>none
def a2c (H:aG) (x:DS) (K:DS->aG->Option R):Option R:=
 match x with
 |.c (.ptr k 0)=>match aj H k with
  |some (.var D [.v .str t,.v (.int .i64) n])=>only (Nat.beq D a0i&& !a0c k) (bif decide (n<(t.length:Int)) then(ag t n).bind λb=>J (b.toNat<128) (K (.fk [.inl (.kb true),.inl (.v (.int .i64) n),.inl (.v (.int .i32) (b.toNat:Int))]) (oset H k (.var a0i [.v .str t,.v (.int .i64) (n+1)]))) else K (.fk [.inl (.kb false)]) H)
  |_=>none
 |_=>none
def MN (P:Program) (H:aG) (ty:TypeId) (x:DS) (K:DS->aG->Option R):Option R:=
 match fU P ty,x with
 |some (e,n,_),.c (.ow k g (.nC i))=>match rowAt H k g with
  |some (.row hs D t l)=>match MR P e t with
   |some q=>only (!a0c k&&wid t==n) (K (.fk []) (oset H k (.row hs D t (l.take i++List.replicate (l.length - i) q))))
   |none=>none
  |_=>none
 |_,_=>none
def sy:DC->Option Value
 |.kb b=>some (.bool b)
 |.np=>some (.pointer none)
 |.nf=>some .nilFunc
 |.nil=>some (.slice none 0 0)
 |.v (.int k) n=>some (.int k n)
 |.v .bool b=>some (.bool b)
 |.v .str l=>some (.string ⟨l.toArray⟩)
 |.v (.gB k) n=>some (.float k n)
 |.v .val x=>some (.iface x.1 x.2)
 |_=>none
def fF:List DC->Option (List Value)
 |[]=>some []
 |x::t=>match sy x,fF t with|some v,some l=>some (v::l) |_,_=>none
def vl:DS->Option Value
 |.c x=>sy x
 |.agg l=>match fF l with|some l=>some (.agg l.toArray) |none=>none
 |_=>none
def Z0 (P:Program) (ty:TypeId):Bool:=match P.underlying ty with|some (.interface _)=>false |some _=>true |none=>false
def TJ (P:Program) (ty:TypeId) (x D:DS) (K:DS->Option R):Option R:=
 match x,D with
 |.c (.v .str s),.c (.v (.int _) i)=>only (tY P ty) ((ag s i).bind λb=>K (.c (.v (.int .u8) b.toNat)))
 |.agg l,.c (.v (.int _) i)=>match P.underlying ty with
  |some (.array len e)=>match nB P e with
   |some (false,1)=>only (Nat.beq l.length len) (AH len i λq=>K (.c (l.getD q .dead)))
   |_=>none
  |_=>none
 |_,_=>none
def Gn (s:cG):List Operand->Option (List DC)
 |[]=>some []
 |x::r=>match bB s x,Gn s r with|some (.c c),some l=>some (c::l) |_,_=>none
def xM (P:Program) (s:aI) (ow li:Bool) (dst:Option Tmp) (op:Op) (K:DS->aG->Option R):Option R:=
 match op with
 |.move x=>er (bB s.sl x) λv=>K v s.hp
 |.assign x=>er (bB s.sl x) λv=>K v s.hp
 |.load ty x=>er (bB s.sl x) λv=>T5 P s.hp ty v λv=>K v s.hp
 |.fieldAddr ty x f=>er (bB s.sl x) λv=>Rb P s.hp ty v f λv=>K v s.hp
 |.indexAddr ty x i=>er (bB s.sl x) λv=>er (bB s.sl i) λj=>Q7 P s.hp ty v j λv=>K v s.hp
 |.binOp op ty x y _=>er (bB s.sl x) λv=>er (bB s.sl y) λu=>Ut P s.hp op ty v u λv=>K v s.hp
 |.unOp op _ x=>er (bB s.sl x) λv=>unD op v λv=>K v s.hp
 |.convert src dst x=>er (bB s.sl x) λv=>acM P src dst v λv=>K v s.hp
 |.nilCheck x=>er (bB s.sl x) λv=>match v with|.c c=>only (Ni s.hp c) (K v s.hp) |_=>none
 |.field ty x f=>er (bB s.sl x) λv=>match HY P ty f,v with
  |some (off,n,agg),.agg l=>only ((agg||n==1)&&decide (off+n<=l.length)) (K (pg agg n l off) s.hp)
  |_,_=>none
 |.extract x i=>er (bB s.sl x) λv=>match v with
  |.fk l=>match l[i]? with|some u=>K (VA u) s.hp |none=>none
  |_=>none
 |.build ty ps=>match F6 s.sl ps.toList,VB P ty with
  |some l,some (pl,z)=>match xH z with
   |some U=>match M4 pl U l with
    |some r=>K (.agg r) s.hp
    |none=>none
   |none=>none
  |_,_=>none
 |.slice ty x N L none=>er (bB s.sl x) λv=>match xP s.sl N,xP s.sl L with
  |some l,some h=>wH P s.hp ty v l h K
  |_,_=>none
 |.slice ty x none (some y) (some z)=>er (bB s.sl x) λv=>er (bB s.sl y) λu=>er (bB s.sl z) λq=>match v,u,q with
  |.c c,.c (.v (.int _) a),.c (.v (.int _) b)=>only ((fU P ty).isSome&&(match c with|.v (.sl _) _=>true |.nil=>true |.z=>true |_=>false)) (J (a=0/\b=0) (K (.c .z) s.hp))
  |_,_,_=>none
 |.index ty x i=>er (bB s.sl x) λv=>er (bB s.sl i) λj=>TJ P ty v j λv=>K v s.hp
 |.pick x y z=>er (bB s.sl x) λv=>er (bB s.sl y) λu=>er (bB s.sl z) λq=>match v with
  |.c (.kb b)=>match b with|true=>K u s.hp |false=>K q s.hp
  |.c (.v .bool b)=>cond b (K u s.hp) (K q s.hp)
  |_=>none
 |.makeInterface ty x=>er (bB s.sl x) λd=>match vl d,Z0 P ty with
  |some v,true=>K (.c (.v .val (ty,v))) s.hp
  |_,_=>none
 |.makeFunc (.func f) F cs=>match Gn s.sl F.toList,Gn s.sl cs.toList with
  |some a,some b=>K (.fn (.func f) a b) s.hp
  |_,_=>none
 |.alloc ty=>match dst,vf P ty with
  |some d,some z=>match xH z with
   |some l=>only (!Nat.beq ty a0i&&kt s.hp d) (K (.c (.ptr d 0)) (oset s.hp d (.var ty l)))
   |none=>none
  |_,_=>none
 |.box ty x=>match dst,bB s.sl x with
  |some d,some v=>match cellsD v with
   |some l=>only (!Nat.beq ty a0i&&kt s.hp d) (K (.c (.ptr d 0)) (oset s.hp d (.var ty l)))
   |none=>none
  |_,_=>none
 |.store ty x y=>er (bB s.sl x) λv=>er (bB s.sl y) λu=>MB P s.hp ty v u K
 |.makeSlice ty x y=>er (bB s.sl x) λv=>er (bB s.sl y) λu=>match dst,fU P ty,v,u with
  |some d,some (e,n,b),.c (.v (.int _) a),.c (.v (.int _) D)=>match xa P 20 e with
   |some t=>match MR P e t with
    |some q=>only (wid t==n&&decide (b<=1000)) (J (a=D/\0<=a/\a<=1000000000) (Mn s.hp d e t (List.replicate a.toNat q) K))
    |none=>none
   |none=>none
  |_,_,_,_=>none
 |.buildSlice ty len ps=>match F6 s.sl ps.toList,fU P ty with
  |some ps,some (e,n,_)=>match li,ps with
   |true,[(0,v)]=>match cellsD v with
    |some cs=>match uv cs with
     |some q=>only (Nat.beq len 1&&Nat.beq q.length n&&Nat.ble n 16777216) (K (.c (.Bj q)) s.hp)
     |none=>none
    |none=>none
   |_,ps=>match ow,len,ps,dst with
    |false,0,[],_=>K (.c .z) s.hp
    |ow,len,ps,dst=>match xa P 20 e with
     |some t=>match Gg t 0 ps with
      |some rows=>only (decide (rows.length=len)&&wid t==n&&decide (len*n<=16777216)) (match ow,dst with
       |false,_=>K (.c (.v (.sl t) rows)) s.hp
       |true,some d=>Mn s.hp d e t rows K
       |_,_=>none)
      |none=>none
     |none=>none
  |_,_=>none
 |.call {callee:=.builtin .len,args:=⟨[x]⟩,argTypes:=⟨[ty]⟩}=>er (bB s.sl x) λv=>Ul P s.hp ty v λv=>K v s.hp
 |.call {callee:=.builtin .append,args:=⟨[x,y]⟩,argTypes:=⟨[ty,O]⟩}=>only (decide (ty=O)) (er (bB s.sl x) λv=>er (bB s.sl y) λu=>wF P s.hp ow dst ty v u K)
 |.call {callee:=.builtin .clear,args:=⟨[x]⟩,argTypes:=⟨[ty]⟩}=>er (bB s.sl x) λv=>MN P s.hp ty v K
 |.call {callee:=.builtin .max,args:=⟨[x,y]⟩,argTypes:=_}=>match bB s.sl x,bB s.sl y with
  |some (.c (.v (.int k) a)),some (.c (.v (.int M) b))=>K (.c (.v (.int k) (if b>a then b else a))) s.hp
  |_,_=>none
 |.call {callee:=.builtin .min,args:=⟨[x,y]⟩,argTypes:=_}=>match bB s.sl x,bB s.sl y with
  |some (.c (.v (.int k) a)),some (.c (.v (.int M) b))=>K (.c (.v (.int k) (if b<a then b else a))) s.hp
  |_,_=>none
 |.range ty x=>er (bB s.sl x) λv=>match dst with|some d=>a2a P s.hp d ty v K |none=>none
 |.next x true=>er (bB s.sl x) λv=>a2c s.hp v K
 |_=>none
end
end
end Go.Proofs.YtejhifnjgoclpaaGreatDoor.Fx
