/- Parts of the proofs, put together by a program. -/
import Derived.Test.YtejhifnjgoclpaaGreatDoorS24
import Derived.Defers
import Derived.Recover
import Derived.Laws.Pointers
set_option linter.unusedVariables false
set_option linter.unusedSimpArgs false
open Option renaming bind_some->ae2,bind_eq_some_iff->aw5
open List renaming getElem_mem->ae3,length_map->ae4,length_append->as0,length_cons->as5,append_nil->at0,drop_eq_getElem_cons->at2,map_append->at4,length_take->at6,take_length->au3,length_drop->au4,take_append_drop->au6,length_singleton->au7,drop_length->av3,all_cons->av4,length_pos_iff->av5,length_eq_zero_iff->aw2,drop_eq_nil_of_le->aw4,foldl_cons->aw6,map_map->aw9
open Nat renaming le_refl->ae5,zero_le->ae6,eq_of_beq_eq_true->at7
open Bool renaming and_eq_true->ae7,not_true->ae8,not_false->as4,false_eq_true->at1,true_and->au1,false_and->aw3,and_false->ax0,and_true->ax6
open Int renaming toNat_natCast->as1
namespace Go.Proofs.YtejhifnjgoclpaaGreatDoor
open Go.RowKit
def wP (c l k:Int):Value:=.iface 295 (.agg #[.int .i64 c,.int .i64 l,.int .i64 k])
theorem ak1 (v:Value) (w:World):(Instr.typeAssert (.iface 295 v) 20 295 true).run Tryz.prog w=.ok (.tuple #[v,.bool true]) w:=by kernel_rfl
theorem alc {w:World} {b:Nat} {vs:List Value} {T:TypeId} (h:w.heap[b]? =some (.cells vs.toArray T (0,0))):kx w b vs:=by
 refine⟨(Array.getElem?_eq_some_iff.1 h).1,fun i D=>?_,fun i=>?_⟩
 · simp [World.cell?,h]
 · simp [World.frozen?,h]
def A4 (w:World) (H:Nat) (c l k:Int) (o:Obj):World:=(((w.setCell ⟨H,0,none⟩ (.int .i64 c)).setCell ⟨H,1,none⟩ (.int .i64 l)).setCell ⟨H,2,none⟩ (.int .i64 k)).alloc o
set_option maxRecDepth 100000 in
theorem anZ (H:Nat) (c l k:Int) (older:List PanicEntry) (w:World) (T:TypeId) (a b d:Value) (hh:w.heap[H]? =some (.cells #[a,b,d] T (0,0))):
  CallsD Tryz.prog 150 #[.pointer (some ⟨H,0,none⟩)] (.panicking ({v:=wP c l k,recovered:=false}::older)) w fun e u' w'=>e=.returned (.tuple #[])/\u'=.panicking ({v:=wP c l k,recovered:=true}::older)/\ ∃o,w'=A4 w H c l k o:=by
 have hv:kx w H [a,b,d]:=alc hh;clear hh;have c0:=hv.get 0 rfl;have c1:=hv.get 1 rfl;have c2:=hv.get 2 rfl;have z:=hv.free;have hl:=hv.lt;refine callsD_of_wpS Tryz.func150 rfl fun c₀ cs hu=>?_;apply wpS_seq;apply wpS_region;simp [wpOpsS,go_sem,recoverD,hu,Tryz.ntmps150,Exit.thenS];have hT: #[Value.pointer (some ⟨H,0,none⟩)]++(Array.replicate 11 undef).setIfInBounds 3 (wP c l k)= #[.pointer (some ⟨H,0,none⟩),undef,undef,undef,wP c l k,undef,undef,undef,undef,undef,undef,undef]:=by rfl
 rw[hT];clear hT;refine wpS_of_wp ?_;unfold wP;clear hu;have hta:=ak1 (.agg #[.int .i64 c,.int .i64 l,.int .i64 k]);have hn1: ¬H=w.heap.size:=by omega
 have HE:Hid (∃o,(((w.setCell ⟨H,0,none⟩ (.int .i64 c)).setCell ⟨H,1,none⟩ (.int .i64 l)).setCell ⟨H,2,none⟩ (.int .i64 k)).alloc (.cells #[.int .i64 c,.int .i64 l,.int .i64 k] 295)=A4 w H c l k o):=Lib.hid ⟨_,rfl⟩;clear hv
 go_wp2_with fail
 simp [bodyPostS,results,Tryz.results150];exact HE.out
set_option maxRecDepth 100000 in
theorem amf (H:Nat) (w:World):
  CallsD Tryz.prog 150 #[.pointer (some ⟨H,0,none⟩)] .returning w fun e u' w'=>e=.returned (.tuple #[])/\u'=.returning/\w'=w:=by
 refine callsD_of_wpS Tryz.func150 rfl fun c₀ cs hu=>?_;apply wpS_seq;apply wpS_region;simp [wpOpsS,go_sem,recoverD,hu,Tryz.ntmps150,Exit.thenS];have hT: #[Value.pointer (some ⟨H,0,none⟩)]++(Array.replicate 11 undef).setIfInBounds 3 (.nilIface)= #[.pointer (some ⟨H,0,none⟩),undef,undef,undef,.nilIface,undef,undef,undef,undef,undef,undef,undef]:=by rfl
 rw[hT];clear hT;refine wpS_of_wp ?_
 go_wp2_with fail
 cases c₀;simp_all [bodyPostS,results,Tryz.results150]
namespace Fx
theorem Ry {w:World} {b i:Nat} {cs:Array Value} {T:TypeId} (h:w.heap[b]? =some (.cells cs T (0,0))) (u:Value):(w.setCell ⟨b,i,none⟩ u).heap[b]? =some (.cells (cs.setIfInBounds i u) T (0,0)):=by simp only[World.setCell];rw[Array.getElem?_modify,if_pos rfl,h];simp
theorem anO {w:World} {b:Nat} {a0 M a2:Value} {T:TypeId} (h:w.heap[b]? =some (.cells #[a0,M,a2] T (0,0))) (D F J:Value):
  (((w.setCell ⟨b,0,none⟩ D).setCell ⟨b,1,none⟩ F).setCell ⟨b,2,none⟩ J).heap[b]? =some (.cells #[D,F,J] T (0,0)):=by
 have:=Ry (i:=2) (Ry (i:=1) (Ry (i:=0) h D) F) J;simpa using this
theorem amP {v:Value} {q:Int×Int×Int} (h:rZ v=some q):v=wP q.1 q.2.1 q.2.2:=by
 unfold rZ at h;split at h
 · split at h
   · rename_i e;injection h with h;subst h;subst e;rfl
   · cases h
 · cases h
def tQ (q:Int×Int×Int):List DC:=[.v (.int .i64) q.1,.v (.int .i64) q.2.1,.v (.int .i64) q.2.2]
def acg (s:aI):aI:=⟨oy s.sl 4 (.c (.ptr 2000 0)),oset s.hp 2000 (.var 89 (tQ (0,0,0)))⟩
def Nr:Option aX->Bool
 |some (.var t [_,_,_])=>Nat.beq t 89
 |_=>false
def Be:DS->Bool
 |.c (.ptr k i)=>Nat.beq k 2000&&Nat.beq i 0
 |_=>false
def Gm {R:Type} (k k2:aI->Option R) (e:dr) (s:aI):Option R:=
 match Nr (aj s.hp 2000)&&Be (bU s.sl 4) with
 |true=>match e with
  |.normal=>k s
  |.ret=>k s
  |.dK v=>(rZ v).bind fun q=>k2 ⟨s.sl,oset s.hp 2000 (.var 89 (tQ q))⟩
  |.exit _=>none
 |false=>none
noncomputable def Tn:Option (Code×Code):=
 match Tryz.prog.funcs[83]? with
 |some fn=>match fn.body with
  |some (.seq _ (.seq a (.seq _ b)))=>some (a,b)
  |_=>none
 |none=>none
noncomputable def su {R A:Type} (o:Shape) (g:cv o->A) (K:A->R) (s:aI):Option R:=match AX 2000 Tryz.prog [.cell 4 89] o s with|some x=>some (K (g x)) |none=>none
noncomputable def Ua (G:List (dh Tryz.prog)) (N:List (Nat×bE)) (aF D F J:Shape) {A:Type} (g:cv F⊕cv J->A) (x:cv aF):Option A:=
 match Tn with
 |some (a,b)=>match od 0 aF.sl&&Nat.beq aF.sl.length 2&& !eC (D.sl.map (·.1)) 11&&(aj (mkD aF x).hp 2000).isNone with
  |true=>exec Tryz.prog 37 [] [] a 6 A (acg (mkD aF x)) fun e s1=>match e with
   |.normal=>match qO D s1 with
    |some M=>match Be (bU (mkD D M).sl 4) with
     |true=>exec Tryz.prog 37 G N b 15 A (mkD D M) (Gm (su F .inl g) (su J .inr g))
     |false=>none
    |none=>none
   |_=>none
  |false=>none
 |none=>none
theorem L4 {R:Type} {k k2:aI->Option R} {e:dr} {s:aI} {y:R} (h:Gm k k2 e s=some y):Be (bU s.sl 4)=true/\Nr (aj s.hp 2000)=true/\((e=.normal\/e=.ret)/\k s=some y\/ ∃q,e=.dK (wP q.1 q.2.1 q.2.2)/\k2 ⟨s.sl,oset s.hp 2000 (.var 89 (tQ q))⟩=some y):=by
 unfold Gm at h;split at h
 · rename_i D;rw[ae7] at D;refine⟨D.2,D.1,?_⟩;cases e with
   |normal=>exact .inl ⟨.inl rfl,h⟩
   |ret=>exact .inl ⟨.inr rfl,h⟩
   |exit i=>cases h
   |dK v=>obtain⟨q,h1,h2⟩:=aw5.1 h;exact .inr ⟨q,by rw[amP h1],h2⟩
 · cases h
theorem aqj {d:DS} (h:Be d=true):d=.c (.ptr 2000 0):=by
 unfold Be at h;split at h
 · rw[ae7] at h;rw[at7 h.1,at7 h.2]
 · cases h
theorem aqN {o:Option aX} (h:Nr o=true): ∃a b c,o=some (.var 89 [a,b,c]):=by
 unfold Nr at h;split at h
 · rename_i t a b c;exact⟨a,b,c,by rw[at7 h]⟩
 · cases h
def TS:List Oper:=[⟨some 11,.makeFunc (.func 150) #[] #[.tmp 4],1, "reader.go:19",#[],none⟩,⟨none,.defer {callee:=.value (.tmp 11),args:= #[],argTypes:= #[]},0, "reader.go:19",#[⟨0,.data⟩],none⟩]
def uA (v:Value):Deferred:=⟨.fn (.func 150) #[v],#[]⟩
theorem arN {id:Nat} {a:Act} {w:World} {Q:Exit->Act->World->Prop} (hs:a.tmps.size=37) (h:Q .normal {tmps:=a.tmps.setIfInBounds 11 (.func (.func 150) #[] #[a.tmps.getD 4 undef]),defers:=uA (a.tmps.getD 4 undef)::a.defers} w):(Code.region id TS.toArray false).wp Tryz.prog Q a w:=by
 refine wp_region ?_;obtain⟨F,df⟩:=a;simp only at hs h⊢;simp [wpOps,go_sem,TS,Act.put,Act.eval,Instr.makeFunc];refine .inl (.inl ?_);have D:11<F.size:=by omega
 simp only[if_pos D,Sem.run_pure,Result.andThen_ok];rw[Oper.upon_defer];simpa[uA,Act.put] using h
theorem anY {a b:Code} (h:Tn=some (a,b)): ∃fn D,Tryz.prog.funcs[83]? =some fn/\fn.body=some (.seq (.region 0 D false) (.seq a (.seq (.region 3 TS.toArray false) b)))/\D.toList=[⟨some 4,.alloc 89,0, "reader.go:15",#[],none⟩]/\fn.ntmps=37/\fn.results= #[.cell 4 89]:=by unfold Tn at h;rw[Tryz.func83] at h;injection h with h;injection h with h1 h2;subst h1;subst h2;exact⟨_,_,Tryz.func83,rfl,rfl,rfl,rfl⟩
set_option maxRecDepth 100000 in
theorem ame {E:cQ} {s:aI} {a:Act} {w:World} {id:Nat} {ops:Array Oper} (U:ops.toList=[⟨some 4,.alloc 89,0, "reader.go:15",#[],none⟩]) (O:(aj s.hp 2000).isNone=true) (Y:gu 37 E s a w):
  (Code.region id ops false).wp Tryz.prog (fun e M w'=>e=.normal/\gu 37 E (acg s) M w') a w:=by
 obtain⟨⟨c,h1,h2⟩,F,N⟩:=Y;have Z:vf Tryz.prog 89=some [.int .i64 0,.int .i64 0,.int .i64 0]:=by kernel_rfl
 obtain⟨J,ah,an,_⟩:=Tr Z w;have e:J.cells= #[.int .i64 0,.int .i64 0,.int .i64 0]:=by rw[<-Array.toArray_toList (xs:=J.cells),ah]
 obtain⟨c',g1,g2,g3⟩:=h1.newVar (k:=2000) (by simpa using O) 89 (AG (vs:=[.int .i64 0,.int .i64 0,.int .i64 0]) (l:=tQ (0,0,0)) (c:=c) (h:=aj s.hp) (w:=w) rfl)
 have he:ops= #[⟨some 4,.alloc 89,0, "reader.go:15",#[],none⟩]:=by rw[<-Array.toArray_toList (xs:=ops),U]
 subst he;refine wp_region ?_;show wpOps _ _ _ [0] a w;rw[wpOps_cons];unfold wpOp;simp only[List.getElem?_toArray,List.getElem?_cons_zero];split
 rotate_left
 · rename_i hw;exact(hw rfl).elim
 refine .inl (qE (val:=.pointer (some ⟨w.heap.size,0,none⟩)) (w':=w.alloc (.cells #[.int .i64 0,.int .i64 0,.int .i64 0] 89)) (by simp [execOp,Instr.alloc,an,Go.newVar,newRow,newObj,Sem.run,e]) ⟨rfl,⟨⟨c',?_,?_⟩,by rw[LU];exact F,by rw[put_defers];exact N⟩⟩)
 · show Conc E c' (aj (oset s.hp 2000 _)) _;rw[jh];exact g1
 · show∀t,SR c' (aj (oset s.hp 2000 _)) _ _ (bU (mV s.sl (some 4) _) t);rw[jh,Fo];exact Mh (d:=some 4) F (fun x D=>by injection D with D;rw[<-D];decide) (fun t=>(h2 t).fL g2) g3
theorem akG {n:Nat} {E:cQ} {R:aI->Prop} {e:Exit} {a:Act} {w:World} (h:T6 n E (fun e s=>e=.normal/\R s) e a w):e=.normal/\ ∃s,gu n E s a w/\R s:=by
 cases e<;>first |exact h.elim |skip
 · obtain⟨s,h1,_,h2⟩:=h;exact⟨rfl,s,h1,h2⟩
 · obtain⟨s,_,h,_⟩:=h;cases h
 · obtain⟨s,_,h,_⟩:=h;cases h
 · obtain⟨s,v,_,_,h,_⟩:=h;cases h
theorem Zd {E:cQ} {c:Cx} {h:Hp} {w:World} {k b:Nat} {T:TypeId} {x0 x1 x2:DC} (hC:Conc E c h w) (hk:h k=some (.var T [x0,x1,x2])) (hm:c.m k=.pointer (some ⟨b,0,none⟩)) (q:Int×Int×Int) (o:Obj):
  ∃a0 F a2,w.heap[b]? =some (.cells #[a0,F,a2] T (0,0))/\Conc E c (bY h k (some (.var T (tQ q)))) (A4 w b q.1 q.2.1 q.2.2 o)/\eN c h w c (bY h k (some (.var T (tQ q)))) (A4 w b q.1 q.2.1 q.2.2 o):=by
 obtain⟨U,cs,g1,g2,g3⟩:=hC.obj k _ hk;rw[hm] at g1;injection g1 with g1;injection g1 with g1;injection g1 with g1;subst g1;obtain⟨J,rfl⟩: ∃J:List Value,cs=J.toArray:=⟨cs.toList,by simp⟩
 have Z:J.length=3:=by have:=g3.len;simpa using this
 obtain⟨a0,F,a2,rfl⟩: ∃a0 F a2,J=[a0,F,a2]:=by
  match J,Z with
  |[a0,F,a2],_=>exact⟨a0,F,a2,rfl⟩
 refine⟨a0,F,a2,g2,?_⟩;have ah:=vS g2;have N: ∀(w:World) (i:Nat) (u:Value) (j:Nat),j≠b->(w.setCell ⟨b,i,none⟩ u).heap[j]? =w.heap[j]? :=fun w i u j D=>Below.heap_setCell _ _ _ _ D;have O: ∀j,j<w.heap.size->(A4 w b q.1 q.2.1 q.2.2 o).heap[j]? =(((w.setCell ⟨b,0,none⟩ (.int .i64 q.1)).setCell ⟨b,1,none⟩ (.int .i64 q.2.1)).setCell ⟨b,2,none⟩ (.int .i64 q.2.2)).heap[j]? :=fun j D=>((Below.refl _ _).alloc (ae5 _) o).block j (by simpa[World.setCell] using D)
 refine hC.put k (o':=.var T (tQ q)) (gl _ _ _) (fun j D=>⟨iG D,rfl⟩) rfl ⟨rfl,rfl,rfl,by simp [A4,World.alloc,World.setCell],fun j h1 h2=>?_⟩ (fun U Y=>.inl ⟨⟨_,hk⟩,Y⟩) (s:=false) (fun q=>by cases q) (fun o M=>?_) fun _=>⟨b,#[.int .i64 q.1,.int .i64 q.2.1,.int .i64 q.2.2],hm,?_,.cons ⟨rfl,rfl⟩ (.cons ⟨rfl,rfl⟩ (.cons ⟨rfl,rfl⟩ .nil))⟩
 · have D:j≠b:=fun e=>h2 ⟨⟨_,hk⟩,by rw[hm,e];rfl⟩
   rw[O j h1,N _ _ _ _ D,N _ _ _ _ D,N _ _ _ _ D]
 · rw[hk] at M;injection M with M;subst M;exact⟨⟨_,rfl⟩,rfl⟩
 · rw[O b ah];exact anO g2 _ _ _
theorem YM {R A:Type} {o:Shape} {g:cv o->A} {K:A->R} {s:aI} {y:R} (h:su o g K s=some y): ∃x,AX 2000 Tryz.prog [.cell 4 89] o s=some x/\K (g x)=y:=by
 unfold su at h;split at h
 · rename_i x D;injection h with h;exact⟨x,D,h⟩
 · cases h
set_option maxRecDepth 100000 in
theorem apM {G:List (dh Tryz.prog)} {an:List (Nat×bE)} {aF J N Y:Shape} {A:Type} {g:cv N⊕cv Y->A} {h:A->cv N⊕cv Y} (a7: ∀o,h (g o)=o) (eb:N.sl.all (fun p=>nX p.2)=true) (ec:Y.sl.all (fun p=>nX p.2)=true) {x:cv aF} {y:A} (hb:Ua G an aF J N Y g x=some y):
  fo Tryz.prog 83 ((mkD aF x).sl.map (·.2)) (mkD aF x).hp (mQ [(false,N),(false,Y)] (h y)):=by
 unfold Ua at hb;split at hb<;>try (cases hb;done)
 rename_i ca cb c5;split at hb<;>try (cases hb;done)
 rename_i hB;simp only[ae7,Bool.not_eq_true'] at hB;obtain⟨⟨⟨hk,cx⟩,b4⟩,bb⟩:=hB;obtain⟨fn,r0,hf,cd,ds,bp,ea⟩:=anY c5;intro c w vals hC hv;refine calls_of_wp_defers hf cd ?_;have b1:=aa3 hk hC hv fn.ntmps;rw[at7 cx,bp] at b1;rw[bp];refine wp_seq (Code.wp_mono (fun e a1 w1 M=>?_) (ame ds bb b1));obtain⟨rfl,eg⟩:=M;show Code.wp _ _ _ _ _;refine wp_seq (Code.wp_mono (fun e a2 w2 M=>?_) (Tl Tryz.prog 37 [] [] ca 6 A _ _ y hb (fun e s1=>e=.normal/\ ∃F,qO J s1=some F/\Be (bU (mkD J F).sl 4)=true/\exec Tryz.prog 37 G an cb 15 A (mkD J F) (Gm (su N .inl g) (su Y .inr g))=some y) (fun e s1 hk=>?_) _ a1 w1 eg))
 rotate_left
 · split at hk<;>try (cases hk;done)
   split at hk<;>try (cases hk;done)
   rename_i F av;split at hk<;>try (cases hk;done)
   rename_i hp;exact⟨rfl,F,av,hp,hk⟩
 obtain⟨rfl,s1,eh,F,av,dk,cc⟩:=akG M;clear M hb;have ej:=(tN av).A9.told eh;show Code.wp _ _ _ _ _;obtain⟨⟨c1,az,aE⟩,b0,ch⟩:=ej;have h4:=aE 4;rw[aqj dk] at h4;obtain⟨_,_,c8,⟨ty,cells,rfl⟩,b,c3,en⟩:=h4;refine wp_seq (arN b0 ?_);rw[en,show a2.defers=[] from ch]
 show Code.wp _ _ _ _ _
 have ek:gu 37 {dW w2 c1 (aj (mkD J F).hp) with df:=[uA (.pointer (some ⟨b,0,none⟩))]} (mkD J F) {tmps:=a2.tmps.setIfInBounds 11 (.func (.func 150) #[] #[.pointer (some ⟨b,0,none⟩)]),defers:=[uA (.pointer (some ⟨b,0,none⟩))]} w2:=by
  refine⟨⟨c1,az.hand.df _,fun t=>?_⟩,by simpa using b0,rfl⟩
  by_cases e:t=11
  · subst e;rw[L5 (l:=(mkD J F).sl) (by rw[show(mkD J F).sl.map (·.1)=J.sl.map (·.1) from mkSl_keys J.sl F,<-tS,b4];simp)]
    trivial
  · have e2:(a2.tmps.setIfInBounds 11 (.func (.func 150) #[] #[.pointer (some ⟨b,0,none⟩)])).getD t undef=a2.tmps.getD t undef:=by
      simp [Array.getD_eq_getD_getElem?,Array.getElem?_setIfInBounds,Ne.symm e]
    rw[e2];exact aE t
 have c6:(dW w c (aj (mkD aF x).hp)).H 2000=none:=by
  show(if 1000<=2000/\2000<5000 then aj (mkD aF x).hp 2000 else none)=none
  rw[if_pos (by decide)];simpa using bb
 have fin: ∀(ah:Shape),ah.sl.all (fun p=>nX p.2)=true-> ∀(a4:Act) (O:World) (s2:aI) (o:cv ah),A8 37 {dW w2 c1 (aj (mkD J F).hp) with df:=[uA (.pointer (some ⟨b,0,none⟩))]} s2 a4 O->AX 2000 Tryz.prog [.cell 4 89] ah s2=some o->
   ∃v,(results fn a4.tmps).run Tryz.prog O=.ok v O/\ ∃c',ve (dW w c (aj (mkD aF x).hp)) (.returned v) c' O (.ret (sr (mkD ah o).sl) (mkD ah o).hp):=by
  intro ah dd a4 O s2 o ht hr;obtain⟨⟨c4,h4,ar,g1,g2,g3⟩,g4,g5⟩:=ht;have b6:Conc {dW w c (aj (mkD aF x).hp) with df:=[uA (.pointer (some ⟨b,0,none⟩))]} c4 h4 O:=(Conc.leave az (ar.df [])).df _
  obtain⟨v,r1,c',b5,hV⟩:=S4 dd hr 37 {dW w c (aj (mkD aF x).hp) with df:=[uA (.pointer (some ⟨b,0,none⟩))]} a4 O c6 ⟨⟨c4,h4,b6,g1,g2,g3⟩,g4,g5⟩
  exact⟨v,r1 fn ea,c',v,rfl,b5.df [],hV⟩
 have idle: ∀(a4:Act) (Z:World) (D:aI),gu 37 {dW w2 c1 (aj (mkD J F).hp) with df:=[uA (.pointer (some ⟨b,0,none⟩))]} D a4 Z->su N .inl g D=some y->Leaves Tryz.prog fn a4.tmps (fun e w'=> ∃c',ve (dW w c (aj (mkD aF x).hp)) e c' w' (mQ [(false,N),(false,Y)] (h y))) a4.defers .returning Z:=fun a4 Z D U hk=>by
  rw[show a4.defers=_ from U.2.2]
  refine leaves_cons (f:=150) (args:= #[.pointer (some ⟨b,0,none⟩)]) (by simp) (by simp [go_sem]) ?_
  refine(amf b Z).mono ?_;rintro e u' O ⟨rfl,rfl,rfl⟩;obtain⟨o,ho,hy⟩:=YM hk;obtain⟨v,r1,hc⟩:=fin N eb a4 O D o U.p ho;rw[<-hy,a7];exact⟨v,r1,hc⟩
 refine Code.wp_mono (fun e a4 Z M=>?_) (Tl Tryz.prog 37 G an cb 15 A _ _ y cc (fun e D=>Gm (su N .inl g) (su Y .inr g) e D=some y) (fun e D hk=>hk) _ _ w2 ek);cases e<;>first |exact M.elim |skip
 · obtain⟨D,U,hk⟩:=M;obtain⟨_,_,⟨_,hk⟩ |⟨q,e,_⟩⟩:=L4 hk
   · exact idle a4 Z D U hk
   · cases e
 · obtain⟨D,U,hk⟩:=M;obtain⟨_,_,⟨e,_⟩ |⟨q,e,_⟩⟩:=L4 hk
   · rcases e with e |e<;>cases e
   · cases e
 · obtain⟨D,U,hk⟩:=M;obtain⟨_,_,⟨_,hk⟩ |⟨q,e,_⟩⟩:=L4 hk
   · exact idle a4 Z D U hk
   · cases e
 · obtain⟨D,pv,rfl,U,hk⟩:=M;obtain⟨_,cj,⟨e,_⟩ |⟨q,e,cp⟩⟩:=L4 hk
   · rcases e with e |e<;>cases e
   · injection e with e;subst e;obtain⟨⟨c4,h4,ar,g1,g2,g3⟩,ed,a6⟩:=U;obtain⟨d0,d1,d2,bx⟩:=aqN cj
     have a8:c4.m 2000=.pointer (some ⟨b,0,none⟩):=by
      obtain⟨_,_,_,h2⟩:=ar.fV 2000 (.var ty cells) (by show(if 1000<=2000/\2000<5000 then aj (mkD J F).hp 2000 else none)=_;rw[if_pos (by decide)];exact c8)
      exact h2.2.trans c3
     show Leaves _ _ _ _ a4.defers _ Z;rw[show a4.defers=_ from a6]
     obtain⟨a0,b2,b3,hh,_,_⟩:=Zd ar (g1 _ _ bx) a8 q default;refine leaves_cons (f:=150) (args:= #[.pointer (some ⟨b,0,none⟩)]) (by simp) (by simp [go_sem]) ?_
     refine(anZ b q.1 q.2.1 q.2.2 [] Z _ a0 b2 b3 hh).mono ?_;rintro e u' O ⟨rfl,rfl,ob,rfl⟩;obtain⟨_,_,_,_,b7,b8⟩:=Zd ar (g1 _ _ bx) a8 q ob;obtain⟨o,ho,hy⟩:=YM cp;rw[<-hy,a7];refine fin Y ec a4 _ ⟨D.sl,oset D.hp 2000 (.var 89 (tQ q))⟩ o ⟨⟨c4,_,b7,fun k o e=>?_,fun k e e'=>?_,fun t=>(g3 t).fL b8⟩,ed,a6⟩ ho
     · have e:aj (oset D.hp 2000 _) k=some o:=e;rw[jh] at e;by_cases hk:k=2000
       · subst hk;rw[gl] at e⊢;exact e
       · rw[iG hk] at e⊢;exact g1 k o e
     · have e':aj (oset D.hp 2000 _) k=none:=e';rw[jh] at e';by_cases hk:k=2000
       · subst hk;rw[gl] at e';cases e'
       · rw[iG hk] at e e';exact g2 k e e'
noncomputable def mkEach (G:List (dh Tryz.prog)) (N:List (Nat×bE)) (aF Z D J:Shape) {A:Type} (g:cv D⊕cv J->A) (h:A->cv D⊕cv J) (U: ∀o,h (g o)=o) (F:cv aF->Option A) (fm:pB aF [(false,D),(false,J)]=true) (O: ∀x,Ua G N aF Z D J g x=F x):dh Tryz.prog:=
 ⟨83,aF,[(false,D),(false,J)],fun R x k=>(F x).bind fun r=>k (h r),fm,fun R x k y Y=>by
  obtain⟨r,h1,h2⟩:=aw5.1 Y;have M:D.sl.all (fun p=>nX p.2)=true/\J.sl.all (fun p=>nX p.2)=true:=by unfold pB at fm;simp only[ae7,av4,List.all_nil] at fm;exact⟨fm.2.1.2,fm.2.2.1.2⟩
  exact⟨h r,h2,apM U M.1 M.2 (by rw[O];exact h1)⟩⟩
end Fx
end Go.Proofs.YtejhifnjgoclpaaGreatDoor
namespace Go.Proofs.YtejhifnjgoclpaaGreatDoor.Fx
open Go.RowKit
set_option maxRecDepth 1000000
noncomputable section
variable {α γ:Type} (call:α->α->γ->Option Int)
def tf:Int×Int×γ×Int×Int×(List α)×Unit->Option ((Int×Int×γ×Int×Int×(List α)×Unit)⊕((Int×Int×γ×Int×(List α)×Unit))):=fun(F,N,M,O,j,D,_)=>bif decide (F<j) then J (0<=j/\j<D.length)<|(D[j.toNat]?).bind fun y=>J (aa .i64 (j - 1))<|J (0<=(j - 1)/\(j - 1)<D.length)<|(D[(j - 1).toNat]?).bind fun Z=>(call y Z M).bind fun Y=>bif decide (Y<0) then J (aa .i64 (j - 1))<|J (aa .i64 (j - 1))<|J (0<=(j - 1)/\(j - 1)<D.length)<|(D[(j - 1).toNat]?).bind fun U=>J (0<=j/\j<D.length)<|(D[j.toNat]?).bind fun ah=>J (0<=j/\j<D.length)<|(D[j.toNat]?).bind fun q=>J (0<=(j - 1)/\(j - 1)<(D.set j.toNat U).length)<|((D.set j.toNat U)[(j - 1).toNat]?).bind fun an=>J (aa .i64 (j - 1))<|some (.inl (F,N,M,O,(j - 1),((D.set j.toNat U).set (j - 1).toNat ah),())) else some (.inr (F,N,M,O,D,())) else some (.inr (F,N,M,O,D,()))
def yk:Int×Int×γ×Int×(List α)×Unit->Option ((Int×Int×γ×Int×(List α)×Unit)⊕(((List α)×Unit))):=fun(N,D,Y,i,M,_)=>bif decide (i<D) then(ab (tf call) (N,D,Y,i,i,M,())).bind fun(O,U,Z,F,ah,_)=>J (aa .i64 (F+1))<|some (.inl (O,U,Z,(F+1),ah,())) else some (.inr (M,()))
def vx (a:Int) (b:Int) (cmp:γ) (l:List α):Option (List α):=J (aa .i64 (a+1))<|(ab (yk call) (a,b,cmp,(a+1),l,())).bind fun(D,_)=>some D
def CV:Int×Int×Int×Int×(List α)×Unit->Option ((Int×Int×Int×Int×(List α)×Unit)⊕(((List α)×Unit))):=fun(D,F,N,i,M,_)=>bif decide (i<N) then J (aa .i64 (D+i))<|J (aa .i64 (F+i))<|J (aa .i64 (F+i))<|J (0<=(F+i)/\(F+i)<M.length)<|(M[(F+i).toNat]?).bind fun y=>J (aa .i64 (D+i))<|J (0<=(D+i)/\(D+i)<M.length)<|(M[(D+i).toNat]?).bind fun O=>J (0<=(D+i)/\(D+i)<M.length)<|(M[(D+i).toNat]?).bind fun q=>J (0<=(F+i)/\(F+i)<(M.set (D+i).toNat y).length)<|((M.set (D+i).toNat y)[(F+i).toNat]?).bind fun U=>J (aa .i64 (i+1))<|some (.inl (D,F,N,(i+1),((M.set (D+i).toNat y).set (F+i).toNat O),())) else some (.inr (M,()))
def vB (a:Int) (b:Int) (n:Int) (cmp:γ) (l:List α):Option (List α):=(ab CV (a,b,n,0,l,())).bind fun(D,_)=>some D
def vF:Int×γ×Int×Int×(List α)×Unit->Option ((Int×γ×Int×Int×(List α)×Unit)⊕((Int×γ×Int×(List α)×Unit))):=fun(F,M,D,j,N,_)=>bif !decide (D=j) then bif decide (j<D) then J (aa .i64 (F - D))<|(vB (F - D) F j M N).bind fun O=>J (aa .i64 (D - j))<|J (N.length=O.length)<|some (.inl (F,M,(D - j),j,O,())) else J (aa .i64 (F - D))<|J (aa .i64 (F+j))<|J (aa .i64 ((F+j) - D))<|(vB (F - D) ((F+j) - D) D M N).bind fun U=>J (aa .i64 (j - D))<|J (N.length=U.length)<|some (.inl (F,M,D,(j - D),U,())) else some (.inr (F,M,D,N,()))
def vK (a:Int) (m:Int) (b:Int) (cmp:γ) (l:List α):Option (List α):=J (aa .i64 (m - a))<|J (aa .i64 (b - m))<|(ab vF (m,cmp,(m - a),(b - m),l,())).bind fun(F,M,D,N,_)=>J (aa .i64 (F - D))<|(vB (F - D) F D M N).bind fun O=>some O
def tn (rc:(Int)->(Int)->(Int)->γ->(List α)->Option (List α)):Int×γ×Int×Int×(List α)×Unit->Option ((Int×γ×Int×Int×(List α)×Unit)⊕((Int×Int×(List α)×Unit))):=fun(N,O,D,F,M,_)=>bif decide (D<F) then J (aa .i64 (D+F))<|J (0<=(1:Int))<|J (0<=(hf (D+F))/\(hf (D+F))<M.length)<|(M[(hf (D+F)).toNat]?).bind fun y=>J (0<=N/\N<M.length)<|(M[N.toNat]?).bind fun Y=>(call y Y O).bind fun U=>bif decide (U<0) then J (aa .i64 ((hf (D+F))+1))<|some (.inl (N,O,((hf (D+F))+1),F,M,())) else some (.inl (N,O,D,(hf (D+F)),M,())) else some (.inr (N,D,M,()))
def yt (rc:(Int)->(Int)->(Int)->γ->(List α)->Option (List α)):Int×Int×(List α)×Unit->Option ((Int×Int×(List α)×Unit)⊕(((List α)×Unit))):=fun(M,D,F,_)=>J (aa .i64 (M - 1))<|bif decide (D<(M - 1)) then J (aa .i64 (D+1))<|J (aa .i64 (D+1))<|J (0<=(D+1)/\(D+1)<F.length)<|(F[(D+1).toNat]?).bind fun N=>J (0<=D/\D<F.length)<|(F[D.toNat]?).bind fun O=>J (0<=D/\D<F.length)<|(F[D.toNat]?).bind fun q=>J (0<=(D+1)/\(D+1)<(F.set D.toNat N).length)<|((F.set D.toNat N)[(D+1).toNat]?).bind fun U=>J (aa .i64 (D+1))<|some (.inl (M,(D+1),((F.set D.toNat N).set (D+1).toNat O),())) else some (.inr (F,()))
def tl (rc:(Int)->(Int)->(Int)->γ->(List α)->Option (List α)):Int×γ×Int×Int×(List α)×Unit->Option ((Int×γ×Int×Int×(List α)×Unit)⊕((Int×Int×(List α)×Unit))):=fun(N,O,D,F,M,_)=>bif decide (D<F) then J (aa .i64 (D+F))<|J (0<=(1:Int))<|J (0<=N/\N<M.length)<|(M[N.toNat]?).bind fun Y=>J (0<=(hf (D+F))/\(hf (D+F))<M.length)<|(M[(hf (D+F)).toNat]?).bind fun Z=>(call Y Z O).bind fun U=>bif !(decide (U<0)) then J (aa .i64 ((hf (D+F))+1))<|some (.inl (N,O,((hf (D+F))+1),F,M,())) else some (.inl (N,O,D,(hf (D+F)),M,())) else some (.inr (N,D,M,()))
def yr (rc:(Int)->(Int)->(Int)->γ->(List α)->Option (List α)):Int×Int×(List α)×Unit->Option ((Int×Int×(List α)×Unit)⊕(((List α)×Unit))):=fun(N,D,F,_)=>bif decide (N<D) then J (aa .i64 (D - 1))<|J (aa .i64 (D - 1))<|J (0<=(D - 1)/\(D - 1)<F.length)<|(F[(D - 1).toNat]?).bind fun M=>J (0<=D/\D<F.length)<|(F[D.toNat]?).bind fun O=>J (0<=D/\D<F.length)<|(F[D.toNat]?).bind fun U=>J (0<=(D - 1)/\(D - 1)<(F.set D.toNat M).length)<|((F.set D.toNat M)[(D - 1).toNat]?).bind fun Y=>J (aa .i64 (D - 1))<|some (.inl (N,(D - 1),((F.set D.toNat M).set (D - 1).toNat O),())) else some (.inr (F,()))
def oQ (rc:(Int)->(Int)->(Int)->γ->(List α)->Option (List α)):Int×Int×Int×γ×Int×Int×Int×Int×Int×(List α)×Unit->Option ((Int×Int×Int×γ×Int×Int×Int×Int×Int×(List α)×Unit)⊕((Int×Int×Int×γ×Int×Int×Int×(List α)×Unit))):=fun(Z,ah,an,O,U,Y,D,F,N,M,_)=>bif decide (D<F) then J (aa .i64 (D+F))<|J (0<=(1:Int))<|J (aa .i64 (N - (hf (D+F))))<|J (0<=(N - (hf (D+F)))/\(N - (hf (D+F)))<M.length)<|(M[(N - (hf (D+F))).toNat]?).bind fun av=>J (0<=(hf (D+F))/\(hf (D+F))<M.length)<|(M[(hf (D+F)).toNat]?).bind fun az=>(call av az O).bind fun ar=>bif !(decide (ar<0)) then J (aa .i64 ((hf (D+F))+1))<|some (.inl (Z,ah,an,O,U,Y,((hf (D+F))+1),F,N,M,())) else some (.inl (Z,ah,an,O,U,Y,D,(hf (D+F)),N,M,())) else some (.inr (Z,ah,an,O,U,Y,D,M,()))
def C0 (rc:Int->Int->Int->γ->List α->Option (List α)) (N F O:Int) (Z:γ) (l:List α):Option (List α):=J (aa .i64 (F - N))<|bif decide ((F - N)=1) then(ab (tn call rc) (N,Z,F,O,l,())).bind fun(a,b,q,_)=>(ab (yt rc) (b,a,q,())).bind fun(q,_)=>some q else J (aa .i64 (O - F))<|bif decide ((O - F)=1) then(ab (tl call rc) (F,Z,N,F,l,())).bind fun(a,b,q,_)=>(ab (yr rc) (b,a,q,())).bind fun(q,_)=>some q else J (aa .i64 (N+O))<|J (0<=(1:Int))<|let M:Int:=hf (N+O);let K:Int×Int×Int×γ×Int×Int×Int×List α×Unit->Option (List α):=fun(y1,y2,y3,Y,U,z2,z3,o,_)=>J (aa .i64 (z2 - z3))<|let w:Int:=z2 - z3;let D0:List α->Option (List α):=fun q=>bif decide (U<w) then(bif decide (w<y3) then(rc U w y3 Y q).bind fun s=>some s else some q) else some q;let D:List α->List α->Option (List α):=fun p q=>bif decide (U<w) then(bif decide (w<y3) then J (p.length=q.length)<|(rc U w y3 Y q).bind fun s=>some s else some q) else some q;let E0:List α->Option (List α):=fun q=>bif decide (y1<z3) then(bif decide (z3<U) then(rc y1 z3 U Y q).bind fun s=>D q s else D0 q) else D0 q;let E:List α->List α->Option (List α):=fun p q=>bif decide (y1<z3) then(bif decide (z3<U) then J (p.length=q.length)<|(rc y1 z3 U Y q).bind fun s=>D q s else D p q) else D p q;bif decide (z3<y2) then(bif decide (y2<w) then(vK z3 y2 w Y o).bind fun r=>E o r else E0 o) else E0 o;J (aa .i64 (M+F))<|bif decide (M<F) then J (aa .i64 ((M+F) - O))<|J (aa .i64 ((M+F) - 1))<|(ab (oQ call rc) (N,F,O,Z,M,(M+F),((M+F) - O),M,((M+F) - 1),l,())).bind K else J (aa .i64 ((M+F) - 1))<|(ab (oQ call rc) (N,F,O,Z,M,(M+F),N,F,((M+F) - 1),l,())).bind K
def tk (rc:Int×Int×Int×γ×(List α)×Unit->Option (List α)):Int×Int×Int×γ×(List α)×Unit->Option (List α):=fun x=>(C0 call) (fun a0 D a2 a3 a4=>rc (a0,D,a2,a3,a4,())) x.1 x.2.1 x.2.2.1 x.2.2.2.1 x.2.2.2.2.1
def Jy (a0:Int) (D:Int) (a2:Int) (a3:γ) (a4:List α):Option (List α):=ou (tk call) (a0,D,a2,a3,a4,())
def vE:Int×γ×Int×Int×Int×(List α)×Unit->Option ((Int×γ×Int×Int×Int×(List α)×Unit)⊕((Int×γ×Int×Int×(List α)×Unit))):=fun(M,F,D,O,b,N,_)=>bif decide (b<=M) then((vx call) O b F N).bind fun insert=>J (aa .i64 (b+D))<|J (N.length=insert.length)<|some (.inl (M,F,D,b,(b+D),insert,())) else some (.inr (M,F,D,O,N,()))
def vC:Int×γ×Int×Int×Int×(List α)×Unit->Option ((Int×γ×Int×Int×Int×(List α)×Unit)⊕((Int×γ×Int×Int×(List α)×Unit))):=fun(O,N,D,M,F,U,_)=>bif decide (F<=O) then J (aa .i64 (M+D))<|((Jy call) M (M+D) F N U).bind fun Y=>J (aa .i64 (2*D))<|J (aa .i64 (F+(2*D)))<|J (U.length=Y.length)<|some (.inl (O,N,D,F,(F+(2*D)),Y,())) else some (.inr (O,N,D,M,U,()))
def tp:Int×γ×Int×(List α)×Unit->Option ((Int×γ×Int×(List α)×Unit)⊕(((List α)×Unit))):=fun(Y,an,M,Z,_)=>bif decide (M<Y) then J (aa .i64 (2*M))<|(ab (vC call) (Y,an,M,0,(2*M),Z,())).bind fun(N,O,D,F,U,_)=>J (aa .i64 (F+D))<|bif decide ((F+D)<N) then((Jy call) F (F+D) N O U).bind fun ah=>J (aa .i64 (D*2))<|J (U.length=ah.length)<|some (.inl (N,O,(D*2),ah,())) else J (aa .i64 (D*2))<|some (.inl (N,O,(D*2),U,())) else some (.inr (Z,()))
def DB (n:Int) (cmp:γ) (l:List α):Option (List α):=(ab (vE call) (n,cmp,20,0,20,l,())).bind fun(M,D,U,O,N,_)=>((vx call) O M D N).bind fun F=>(J (N.length=F.length)<|ab (tp call) (M,D,U,F,())).bind fun(Y,_)=>some Y
def yH (cmp:γ) (l:List α):Option (List α):=((DB call) (l.length:Int) cmp l).bind fun D=>some D
def gp:List UInt8:=[46]
def oa:List UInt8:=[45]
def acT:List UInt8:=[33,61]
def acC:List UInt8:=[60]
def acD:List UInt8:=[60,61]
def acA:List UInt8:=[62]
def abZ:List UInt8:=[62,61]
def abY:List UInt8:=[126]
def acz:List UInt8:=[94]
def kr:List UInt8:=[42]
def acB:List UInt8:=[61]
def nS:List UInt8:=[115,111,117,114,99,101]
def Wl:List UInt8:=[55,102,102,56,48,48,48,48,48,48,48,48,48,48,48,49]
def jJ:List UInt8:=[111,112,101,110]
def wa:List UInt8:=[99,108,111,115,101,100]
def qA:List UInt8:=[99,108,97,105,109]
def iF:List UInt8:=[97,108,108,111,119]
def pe:List UInt8:=[100,101,110,121]
def hW:List UInt8:=[102,105,114,115,116]
def ui:List UInt8:=[112,105,110]
def qG:List UInt8:=[104,97,115,104]
def tL:List UInt8:=[116,101,110,97,110,116]
def RT:List UInt8:=[112,111,108,105,99,121]
def SY:List UInt8:=[105,110,100,101,120]
def SZ:List UInt8:=[101,110,116,114,121]
def FA:List UInt8:=[121,97,110,107,101,100]
def uj:List UInt8:=[98,97,110]
def tW:List UInt8:=[110,101,101,100]
def oX:List UInt8:=[102,101,97,116,117,114,101]
def TZ:List UInt8:=[10]
def TY:List UInt8:=[35]
def AW:List UInt8:=[64]
def TW:List UInt8:=[47]
def TB:List UInt8:=[124]
def TX:List UInt8:=[44]
def QL:List UInt8:=[109,97,110,105,102,101,115,116]
def TA:List UInt8:=[114,111,111,116]
def agj:List UInt8:=[105,110,100,101,120,32,109,97,105,110,10,101,110,116,114,121,32,97,32,49,46,48,46,48,32,48,48,48,48,48,48,48,48,48,48,48,48,48,48,97,97,32,45,10,110,101,101,100,32,98,32,42,32,120,10,101,110,116,114,121,32,98,32,49,46,48,46,48,32,48,48,48,48,48,48,48,48,48,48,48,48,48,48,97,98,32,45,10,102,101,97,116,117,114,101,32,120,10]
def agi:List UInt8:=[112,111,108,105,99,121,10,115,111,117,114,99,101,32,109,97,105,110,32,51,102,102,48,48,48,48,48,48,48,48,48,48,48,48,48,32,111,112,101,110,10,116,101,110,97,110,116,32,116,32,45,10]
def s_t:List UInt8:=[116]
def agA:List UInt8:=[109,97,110,105,102,101,115,116,10,114,111,111,116,32,97,32,42,10]
def s_b:List UInt8:=[98]
def s_x:List UInt8:=[120]
abbrev Lp (V R:Type):=V->Option (V⊕R)
abbrev ae:=List UInt8
abbrev aD:=List ae
abbrev jy:=Int×Int×Int
abbrev gC:=jy×ae
abbrev sF:=List (Int×gC)
abbrev jY:=List sF
abbrev pL:=ae×jY×aD
abbrev bF:=List pL
abbrev p6:=List (ae×bF)
abbrev oH:=ae×gC×Int×Int×Bool×bF×bF×p6
abbrev xm:=ae×ae×aD
abbrev aK:=List xm
abbrev oK:=List (ae×aK)
abbrev xR:=ae×ae×ae×ae×Bool×aK×aK×oK
abbrev Bw:=ae×Int
abbrev bK:=List (xR×Bw)
abbrev iC:=List Bw
abbrev aA:=List Int
abbrev fY:=List (ae×aA)
abbrev fX:=List (ae×gC)
abbrev NB:=ae×Int×aD
abbrev fM:=List NB
abbrev fx:=List (ae×Nat×Bool)
abbrev gU:=fx×fM×fX×fY×iC
abbrev kL:=Int×Int×jy
abbrev iw:=ae×ae
abbrev aS:=List iw
abbrev H8:=Int×aD×aA
abbrev NC:=(oH×ae)×Int
abbrev jf:=List NC
abbrev GC:=iC×Unit
abbrev OO:=fx×fM×fX×fY×GC
abbrev eE:=List (oH×ae)
abbrev eD:=Int×Unit
abbrev cS:=eE×bF×aS
abbrev je:=List (ae×iw)
abbrev GD:=bF×Unit
abbrev kE:=List oH
abbrev UF:=Bool×kE×bF×bF×Bool×p6×GD
abbrev adk:=bF×bF×Bool×p6×ae×GD
abbrev bP:=H8×Int
abbrev xQ:=Option (ae×Bool×kE×ae×Int×Int×Int×ae×Int×Int×Bool×bP×adk⊕Value×UF)
abbrev dq:=List kL
abbrev ng:=dq×Unit
abbrev nF:=Int×Int×ng
abbrev fW:=List (ae×aD)
abbrev cW:=H8×Int×jy
abbrev bz:=Option Bool
abbrev bH:=Option Int
abbrev pN:=Int×Int×Int×aD
abbrev Ia:=List (Int×pN)
abbrev gV:=aA×Unit
abbrev OQ:=Int×Int×Int×Int×Int×aD×gV
abbrev kM:=List Ia
abbrev iP:=Int×eD
abbrev jA:=Int×iP
abbrev pO:=Int×jA
abbrev UB:=Int×aD×aA×pO
abbrev rE:=ae×ae×ae×ae×Bool×ae×ae×ae×ae×aK×aK×Bool×oK×ae×aK×UB
abbrev lH:=je×aK×aS×fW×aS
abbrev jz:=aS×Unit
abbrev p5:=ae×Unit
abbrev td:=Int×Int×p5
abbrev OP:=je×aK×aS×fW×jz
abbrev NJ:=jf×Unit
abbrev Bv:=List xR
abbrev oJ:=List (ae×Bv)
abbrev jS:=aD×Unit
abbrev oI:=Int×Int×Int×jS
abbrev uI:=bP×Unit
abbrev H9:=Option (fx×fM×fX×fY×iC×uI⊕Value×OO)
abbrev VK:=ae×Bool×kE×ae×Int×Int×Int×ae×Int×Int×Bool×adk
abbrev uK:=Option jf
abbrev rF:=List (ae×kE)
abbrev sH:=Value×Unit
abbrev Cq:=Option (ae×uI⊕sH)
abbrev Cp:=ae×aD×je×aK×aS×fW×aS×UB
abbrev lr:=Option dq
abbrev Bx:=Int->Int->Int->dq->lr
abbrev gi:=List H8
abbrev q8:=Option (ae×Bool)
abbrev ada:=aK×aK×Bool×oK×ae×aK×Unit
abbrev NL:=ae×ae×ae×ae×ae×ae×Bool×Bv×ae×ae×ae×ae×Bool×Int×aD×aA×Int×Int×Int×Int×ada
abbrev jr:=Unit⊕eD
abbrev jq:=Unit⊕Unit
abbrev sG:=Option (Int×Bool)
abbrev gO:=List aA
abbrev sI:=aA×eD
abbrev NK:=fx×fM×fX×fY×iC×Int×aD×sI
abbrev mY:=bK×aK×aS
abbrev NI:=Int×Int×Int×gi×Unit
abbrev q7:=Int×nF
abbrev lu:=ae×eD
abbrev adr:=ae×oJ×bK×Int×Int×Int×je×aK×aS×fW×aS×ae×ae×ae×ae×Bool×aK×aK×oK×lu
abbrev BB:=ae×Int×Int×Int×ae×Bool×Bv×ae×ae×ae×ae×Bool×ada
abbrev nh:=Option aA
abbrev BA:=Int×Int×OQ
abbrev adw:=Int×ae×fx×fM×fX×fY×iC×Int×je×aK×aS×fW×aS×ae×oJ×rF×Unit
abbrev adu:=fx×fM×fX×fY×iC×NJ
abbrev uJ:=Int×Int×Int×ae×Int×td
abbrev UI:=Int×je×aK×aS×fW×aS×bK×Unit
abbrev Uy:=bF×Int×Int×jz
abbrev adt:=Lp (bF×Int×Int×aD×Int×Int×ae×jY×aD×jz) Uy
abbrev UH:=Int×Int×adu
abbrev UG:=Option (je×aK×aS×fW×aS×cW)
abbrev By:=Option (ae×ae×ae×ae×Bool×aK×aK×Bool×oK×ae×aK×cW)
abbrev xl:=Int×gV
abbrev xn:=Int×xl
abbrev GF:=Option (Bool×ae)
abbrev sJ:=Option ae
abbrev NN:=Int×Int×Int×aD×oI
abbrev pP:=aK×jz
abbrev GI:=Option (Int×ae)
abbrev GH:=Int×ae×p5
abbrev GG:=Int×bF×nF
abbrev BC:=Int×Int×td
abbrev NG:=Int×Int×jY×Unit
abbrev sE:=Int×q7
abbrev Bs:=Option aS
abbrev GB:=p5⊕Int×p5
abbrev xk:=Option aD
abbrev NF:=Option (ae×cW)
abbrev ND:=Option (gi×jy)
abbrev UA:=Int×Int×aS×eE×GD
abbrev uH:=aA×iP
abbrev sD:=Bool×GD
abbrev sC:=Bool×OO
abbrev Uz:=Option (Int×uI⊕sH)
abbrev ade:=Lp (Int×je×aK×aS×fW×aS×jS) jS
abbrev xj:=xm×ae
abbrev NA:=Int×Int×BA
abbrev Nz:=Int×Int×pO
abbrev Ux:=eE×bF×bK×aK
abbrev adp:=Lp (Int×ae×Int×rE) (ae×rE)
abbrev UE:=Option (aA×Bool)
abbrev UD:=Int×Int×Int×NI
abbrev adn:=ae×ae×jY×aD×Int×aD×sI
abbrev Bu:=Int×OP
abbrev Bt:=eD⊕eD
abbrev adl:=Int×Int×Int×gU×NJ->uK
abbrev adj:=Lp (Int×aD×OP) (aD×OP)
abbrev adg:=cS×Int×Int×aS×Int×GG
abbrev NH:=ae×ae×ae×ae×aD×UB
def DD:Lp (ae×iP) (p5⊕Unit):=fun(F,M,D,_)=>let N:UInt8->Option (ae×iP⊕p5⊕Unit):=fun b=>bif decide ((b.toNat:Int)<97) then bif !decide ((b.toNat:Int)=45) then some (.inr (.inr (()))) else J (aa .i64 (D+1))<|some (.inl (F,M,(D+1),())) else bif decide (122<(b.toNat:Int)) then bif !decide ((b.toNat:Int)=45) then some (.inr (.inr (()))) else J (aa .i64 (D+1))<|some (.inl (F,M,(D+1),())) else J (aa .i64 (D+1))<|some (.inl (F,M,(D+1),()));bif decide (D<M) then(ag F D).bind fun b=>bif decide ((b.toNat:Int)<48) then N b else bif decide (57<(b.toNat:Int)) then N b else J (aa .i64 (D+1))<|some (.inl (F,M,(D+1),())) else some (.inr (.inl (F,())))
def Kd (s:ae):bz:=bif decide (s=[]) then some false else bif decide (8<(s.length:Int)) then some false else(ab DD (s,(s.length:Int),0,())).bind fun o=>match o with|.inl (D,_)=>(tv D).bind fun digits=>bif !digits then some true else bif decide ((D.length:Int)=1) then some true else(ag D 0).bind fun F=>some (!decide ((F.toNat:Int)=48))|.inr (_)=>some false
def DJ:Lp (aD×iP) jq:=fun(F,M,D,_)=>bif decide (D<M) then(ag F D).bind fun N=>(Kd N).bind fun part=>bif !part then some (.inr (.inr (()))) else J (aa .i64 (D+1))<|some (.inl (F,M,(D+1),())) else some (.inr (.inl (())))
def D6 (s:ae):bz:=(strings_Split s gp).bind fun split=>bif decide (4<(split.length:Int)) then some false else(ab DJ (split,(split.length:Int),0,())).bind fun o=>match o with|.inl (_)=>some true|.inr (_)=>some false
def tg:Lp (Int×Int×Int×BC) (Int×td⊕Unit):=fun(F,M,N,D,O,U,Y,Z,_)=>bif decide (D<3) then if D=((2:Nat):Int) then bif decide (N<0) then some (.inr (.inr (()))) else bif decide (999999<N) then some (.inr (.inr (()))) else J (aa .i64 (D+1))<|some (.inl (F,M,N,(D+1),O,U,Y,Z,())) else if D=((1:Nat):Int) then bif decide (M<0) then some (.inr (.inr (()))) else bif decide (999999<M) then some (.inr (.inr (()))) else J (aa .i64 (D+1))<|some (.inl (F,M,N,(D+1),O,U,Y,Z,())) else if D=((0:Nat):Int) then bif decide (F<0) then some (.inr (.inr (()))) else bif decide (999999<F) then some (.inr (.inr (()))) else J (aa .i64 (D+1))<|some (.inl (F,M,N,(D+1),O,U,Y,Z,())) else none else some (.inr (.inl (O,U,Y,Z,())))
def ym (v:gC):bz:=(ab tg (v.1.1,v.1.2.1,v.1.2.2,0,v.1.1,v.1.2.1,v.1.2.2,v.2,())).bind fun o=>match o with|.inl (M,F,J,D,_)=>bif decide (D=[]) then some true else(D6 D).bind fun pre=>some pre|.inr (_)=>some false
def IY (v:gC):sJ:=(ym v).bind fun check=>bif !check then some [] else(strconv_Itoa v.1.1).bind fun itoa=>J (itoa.length+gp.length<=9223372036854775807)<|(strconv_Itoa v.1.2.1).bind fun D=>J ((itoa++gp).length+D.length<=9223372036854775807)<|J (((itoa++gp)++D).length+gp.length<=9223372036854775807)<|(strconv_Itoa v.1.2.2).bind fun F=>J ((((itoa++gp)++D)++gp).length+F.length<=9223372036854775807)<|bif !decide (v.2=[]) then J (oa.length+v.2.length<=9223372036854775807)<|J (((((itoa++gp)++D)++gp)++F).length+(oa++v.2).length<=9223372036854775807)<|some (((((itoa++gp)++D)++gp)++F)++(oa++v.2)) else some ((((itoa++gp)++D)++gp)++F)
def EX (op:Int):sJ:=bif decide (op=1) then some acT else bif decide (op=2) then some acC else bif decide (op=3) then some acD else bif decide (op=4) then some acA else bif decide (op=5) then some abZ else bif decide (op=6) then some abY else bif decide (op=7) then some acz else bif decide (op=8) then some kr else some acB
def Ej:Lp (ae×Int×Nz) (ae×Int×Nz):=fun(F,M,D,N)=>bif decide (D<(F.length:Int)) then(ag F D).bind fun b=>bif !decide ((b.toNat:Int)=35) then J (aa .i64 (D+1))<|some (.inl (F,M,(D+1),N)) else some (.inr (F,M,D,N)) else some (.inr (F,M,D,N))
def zl:Lp (ae×NA) (ae×NA):=fun(F,N,M,U,D,O)=>bif decide (D<M) then(ag F D).bind fun Y=>bif !decide ((Y.toNat:Int)=32) then(ag F D).bind fun Z=>bif !decide ((Z.toNat:Int)=9) then J (aa .i64 (D+1))<|some (.inl (F,N,M,U,(D+1),O)) else some (.inr (F,N,M,U,D,O)) else some (.inr (F,N,M,U,D,O)) else some (.inr (F,N,M,U,D,O))
def zk:Lp (ae×Int×NA) (ae×NA⊕pO):=fun(M,F,U,Y,N,D,O)=>bif decide (D<N) then(ag M D).bind fun Z=>bif decide ((Z.toNat:Int)<33) then J (aa .i64 (D+1))<|some (.inr (.inr (0,1,F,(D+1),()))) else(ag M D).bind fun ah=>bif decide (126<(ah.toNat:Int)) then J (aa .i64 (D+1))<|some (.inr (.inr (0,1,F,(D+1),()))) else J (aa .i64 (D+1))<|some (.inl (M,F,U,Y,N,(D+1),O)) else some (.inr (.inl (M,F,U,Y,N,O)))
def rL:Lp (ae×Int×BA) (OQ⊕pO):=fun(O,ah,Y,D,U)=>bif decide (D<Y) then(ag O D).bind fun a1=>bif decide ((a1.toNat:Int)=32) then J (aa .i64 (D+1))<|some (.inl (O,ah,Y,(D+1),U)) else(ag O D).bind fun a6=>bif decide ((a6.toNat:Int)=9) then J (aa .i64 (D+1))<|some (.inl (O,ah,Y,(D+1),U)) else(ab zl (O,ah,Y,D,D,U)).bind fun(cc,an,b8,F,ar,bx,b0,b1,b2,b7,av,a7)=>bif decide (20<=(av.length:Int)) then J (aa .i64 (F+1))<|some (.inr (.inr (0,2,an,(F+1),()))) else J (aa .i64 (ar - F))<|bif decide (80<(ar - F)) then J (aa .i64 (F+1))<|some (.inr (.inr (0,2,an,(F+1),()))) else(ab zk (cc,an,b8,F,ar,F,bx,b0,b1,b2,b7,av,a7)).bind fun o=>match o with|.inl (Z,a8,ca,M,N,bb,b3,b4,b5,b6,az,aE,_)=>J (0<=M/\M<=N/\N<=Z.length)<|J (az.length+([((Z.take N.toNat).drop M.toNat)]:aD).length<=1000000000)<|J (aa .i64 (M+1))<|J (aE.length+([(M+1)]:aA).length<=1000000000)<|some (.inl (Z,a8,ca,N,bb,b3,b4,b5,b6,(az++([((Z.take N.toNat).drop M.toNat)]:aD)),(aE++([(M+1)]:aA)),()))|.inr bp=>some (.inr (.inr bp)) else some (.inr (.inl (U)))
def zX (x:ae) (D:Int):Option (H8×jy):=(ab Ej (x,D,0,0,0,0,0,D,())).bind fun(a6,N,a1,U,an,ar,av,aE,_)=>(ab rL (a6,N,a1,0,U,an,ar,av,aE,[],[],())).bind fun F=>match F with|.inl (a7,a8,bb,bp,az,J,M,_)=>some ((az,J,M),(0,0,0))|.inr (O,Y,Z,ah,_)=>some ((O,[],[]),(Y,Z,ah))
def DG:Lp (ae×Int×UD) (ae×Int×UD):=fun(F,N,O,M,D,Y,Z,ah,U,_)=>bif decide (D<(F.length:Int)) then(ag F D).bind fun b=>bif !decide ((b.toNat:Int)=10) then J (aa .i64 (D+1))<|some (.inl (F,N,O,M,(D+1),Y,Z,ah,U,())) else some (.inr (F,N,O,M,D,Y,Z,ah,U,())) else some (.inr (F,N,O,M,D,Y,Z,ah,U,()))
def yQ:Lp (ae×UD) (NI⊕jA):=fun(Z,a1,no,at_,av,az,aE,Y,_)=>bif decide (at_<(Z.length:Int)) then(ab DG (Z,a1,no,at_,at_,av,az,aE,Y,())).bind fun(M,O,F,N,D,ah,an,ar,U,_)=>bif decide (O<F) then some (.inr (.inr (2,F,0,()))) else J (0<=N/\N<=D/\D<=M.length)<|(zX ((M.take D.toNat).drop N.toNat) F).bind fun split=>bif !decide (split.2.1=0) then some (.inr (.inr (split.2.1,split.2.2.1,split.2.2.2,()))) else bif decide (0<(split.1.2.1.length:Int)) then J (U.length+([split.1]:gi).length<=1000000000)<|J (aa .i64 (D+1))<|J (aa .i64 (F+1))<|some (.inl (M,O,(F+1),(D+1),ah,an,ar,(U++([split.1]:gi)),())) else J (aa .i64 (D+1))<|J (aa .i64 (F+1))<|some (.inl (M,O,(F+1),(D+1),ah,an,ar,U,())) else some (.inr (.inl (av,az,aE,Y,())))
def Qi (s:ae) (D:Int):ND:=(ab yQ (s,D,1,0,0,0,0,[],())).bind fun o=>match o with|.inl (O,U,Y,F,_)=>some (F,(0,0,0))|.inr (J,M,N,_)=>some ([],(J,M,N))
def Af (s:ae):ND:=bif decide (20000<(s.length:Int)) then some ([],(2,0,0)) else(Qi s 800).bind fun D=>some (D.1,D.2)
def dF (o:cW):Option (Bool×cW):=some (decide (o.2.2.1=0),o)
def jg (o:cW):NF:=(dF o).bind fun aJ=>bif !aJ.1 then some ([],aJ.2) else bif decide ((aJ.2.1.2.1.length:Int)<=aJ.2.2.1) then some ([],(aJ.2.1,aJ.2.2.1,1,aJ.2.1.1,0)) else J (aa .i64 (aJ.2.2.1+1))<|J (aa .i64 ((aJ.2.2.1+1) - 1))<|(ag aJ.2.1.2.1 ((aJ.2.2.1+1) - 1)).bind fun D=>some (D,(aJ.2.1,(aJ.2.2.1+1),aJ.2.2.2))
def fi (code:Int) (o:cW):Option cW:=bif decide (o.2.2.1=0) then bif decide (0<o.2.1) then J (aa .i64 (o.2.1 - 1))<|(ag o.1.2.2 (o.2.1 - 1)).bind fun D=>some (o.1,o.2.1,code,o.1.1,D) else some (o.1,o.2.1,code,o.1.1,0) else some o
def fA (n:Int) (D:Int) (o:cW):Option cW:=(dF o).bind fun aJ=>bif aJ.1 then bif decide (D<=n) then(fi 2 aJ.2).bind fun fail=>some fail else some aJ.2 else some aJ.2
def Jl:adj:=fun(i,F,D,M,N,O,U,_)=>bif decide (i<(D.length:Int)) then J (0<=i/\i<D.length)<|(D[i.toNat]?).bind fun y=>J (F.length+([y.1]:aD).length<=1000000000)<|J (aa .i64 (i+1))<|some (.inl ((i+1),(F++([y.1]:aD)),D,M,N,O,U,())) else some (.inr (F,D,M,N,O,U,()))
def JD (l:je) (D:aK) (F:aS) (J:fW) (M:aS):Option (aD×lH):=(ab Jl (0,[],l,D,F,J,M,())).bind fun(ah,N,O,U,Y,Z,_)=>some (ah,N,O,U,Y,Z)
def yV:Lp lu jq:=fun(M,D,_)=>let N:UInt8->Option (lu⊕jq):=fun F=>bif decide (48<=(F.toNat:Int)) then bif decide ((F.toNat:Int)<=57) then J (aa .i64 (D+1))<|some (.inl (M,(D+1),())) else bif !(decide ((F.toNat:Int)=45)) then some (.inr (.inr (()))) else J (aa .i64 (D+1))<|some (.inl (M,(D+1),())) else bif !(decide ((F.toNat:Int)=45)) then some (.inr (.inr (()))) else J (aa .i64 (D+1))<|some (.inl (M,(D+1),()));bif decide (D<(M.length:Int)) then(ag M D).bind fun F=>bif decide (97<=(F.toNat:Int)) then bif decide ((F.toNat:Int)<=122) then J (aa .i64 (D+1))<|some (.inl (M,(D+1),())) else N F else N F else some (.inr (.inl (())))
def zj (s:ae):bz:=bif decide (20<(s.length:Int)) then some false else bif decide (0<(s.length:Int)) then(ag s 0).bind fun b=>bif decide ((b.toNat:Int)<97) then some false else(ag s 0).bind fun D=>bif decide (122<(D.toNat:Int)) then some false else(ab yV (s,0,())).bind fun o=>match o with|.inl (_)=>some true|.inr (_)=>some false else(ab yV (s,0,())).bind fun F=>match F with|.inl (_)=>some true|.inr (_)=>some false
def vY (s:ae):bz:=bif decide (0<(s.length:Int)) then(zj s).bind fun letter=>bif letter then J (aa .i64 ((s.length:Int) - 1))<|(ag s ((s.length:Int) - 1)).bind fun b=>some (!decide ((b.toNat:Int)=45)) else some false else some false
def DY:Lp lu (p5⊕eD):=fun(D,i,_)=>bif decide (i<(D.length:Int)) then(ag D i).bind fun b=>bif decide ((b.toNat:Int)=47) then some (.inr (.inr (i,()))) else J (aa .i64 (i+1))<|some (.inl (D,(i+1),())) else some (.inr (.inl (D,())))
def zx (s:ae):bH:=(ab DY (s,0,())).bind fun o=>match o with|.inl (D,_)=>some (D.length:Int)|.inr (F,_)=>some F
def EG (s:ae):bz:=(zx s).bind fun D=>bif decide (D<(s.length:Int)) then(ag s 0).bind fun b=>bif decide ((b.toNat:Int)=64) then J (0<=(1:Int)/\(1:Int)<=D/\D<=s.length)<|(vY ((s.take D.toNat).drop (1:Int).toNat)).bind fun plain=>some plain else some false else some false
def vZ (s:ae):bz:=(EG s).bind fun M=>bif M then(zx s).bind fun D=>J (aa .i64 (D+1))<|J (0<=(D+1)/\(D+1)<=(s.length:Int)/\(s.length:Int)<=s.length)<|(vY ((s.take (s.length:Int).toNat).drop (D+1).toNat)).bind fun plain=>some plain else(vY s).bind fun F=>some F
def zW:Lp (ae×oI) (ae×Int×jS):=fun(D,N,F,i,M,_)=>bif decide (i<(D.length:Int)) then(ag D i).bind fun b=>bif decide ((b.toNat:Int)=N) then J (0<=F/\F<=i/\i<=D.length)<|J (M.length+([((D.take i.toNat).drop F.toNat)]:aD).length<=1000000000)<|J (aa .i64 (i+1))<|J (aa .i64 (i+1))<|some (.inl (D,N,(i+1),(i+1),(M++([((D.take i.toNat).drop F.toNat)]:aD)),())) else J (aa .i64 (i+1))<|some (.inl (D,N,F,(i+1),M,())) else some (.inr (D,F,M,()))
def qB (s:ae) (c:Int):xk:=(ab zW (s,c,0,0,[],())).bind fun(D,F,M,_)=>J (0<=F/\F<=(D.length:Int)/\(D.length:Int)<=D.length)<|J (M.length+([((D.take (D.length:Int).toNat).drop F.toNat)]:aD).length<=1000000000)<|some (M++([((D.take (D.length:Int).toNat).drop F.toNat)]:aD))
def vN:Lp (ae×iP) Bt:=fun(M,F,D,_)=>bif decide (D<(M.length:Int)) then(ag M D).bind fun O=>bif decide ((O.toNat:Int)<48) then some (.inr (.inr (0,()))) else(ag M D).bind fun U=>bif decide (57<(U.toNat:Int)) then some (.inr (.inr (0,()))) else J (aa .i64 (10*F))<|(ag M D).bind fun N=>J (aa .i64 ((10*F)+(IntKind.wrap .i64 (N.toNat:Int))))<|J (aa .i64 (((10*F)+(IntKind.wrap .i64 (N.toNat:Int))) - 48))<|J (aa .i64 (D+1))<|some (.inl (M,(((10*F)+(IntKind.wrap .i64 (N.toNat:Int))) - 48),(D+1),())) else some (.inr (.inl (F,())))
def zA (w:ae):sG:=bif decide ((w.length:Int)<1) then some (0,false) else bif decide (9<(w.length:Int)) then some (0,false) else bif decide (1<(w.length:Int)) then(ag w 0).bind fun b=>bif decide ((b.toNat:Int)=48) then some (0,false) else(ab vN (w,0,0,())).bind fun o=>match o with|.inl (D,_)=>some (D,true)|.inr (M,_)=>some (M,false) else(ab vN (w,0,0,())).bind fun J=>match J with|.inl (F,_)=>some (F,true)|.inr (N,_)=>some (N,false)
def zy (s:ae):sG:=(zA s).bind fun number=>bif number.2 then some (number.1,decide ((s.length:Int)<=6)) else some (number.1,false)
def y9:Lp lu jq:=fun(D,i,_)=>bif decide (i<(D.length:Int)) then(ag D i).bind fun b=>bif decide ((b.toNat:Int)<48) then some (.inr (.inr (()))) else(ag D i).bind fun F=>bif decide (57<(F.toNat:Int)) then some (.inr (.inr (()))) else J (aa .i64 (i+1))<|some (.inl (D,(i+1),())) else some (.inr (.inl (())))
def zz (s:ae):bz:=(ab y9 (s,0,())).bind fun o=>match o with|.inl (_)=>some true|.inr (_)=>some false
def EH:Lp lu jq:=fun(M,D,_)=>let N:UInt8->Option (lu⊕jq):=fun F=>bif decide (97<=(F.toNat:Int)) then bif decide ((F.toNat:Int)<=122) then J (aa .i64 (D+1))<|some (.inl (M,(D+1),())) else bif !(decide ((F.toNat:Int)=45)) then some (.inr (.inr (()))) else J (aa .i64 (D+1))<|some (.inl (M,(D+1),())) else bif !(decide ((F.toNat:Int)=45)) then some (.inr (.inr (()))) else J (aa .i64 (D+1))<|some (.inl (M,(D+1),()));bif decide (D<(M.length:Int)) then(ag M D).bind fun F=>bif decide (48<=(F.toNat:Int)) then bif decide ((F.toNat:Int)<=57) then J (aa .i64 (D+1))<|some (.inl (M,(D+1),())) else N F else N F else some (.inr (.inl (())))
def LS (s:ae):bz:=let D:bz:=(ab EH (s,0,())).bind fun o=>match o with|.inl (_)=>some true|.inr (_)=>some false;bif decide (s=[]) then some false else bif decide (8<(s.length:Int)) then some false else bif decide (1<(s.length:Int)) then(ag s 0).bind fun b=>bif decide ((b.toNat:Int)=48) then(zz s).bind fun digits=>bif digits then some false else D else D else D
def Ei:Lp (ae×pO) (ae×pO):=fun(F,D,M,N,O,_)=>bif decide (D<(F.length:Int)) then(ag F D).bind fun b=>bif !decide ((b.toNat:Int)=45) then J (aa .i64 (D+1))<|some (.inl (F,(D+1),M,N,O,())) else some (.inr (F,D,M,N,O,())) else some (.inr (F,D,M,N,O,()))
def vP:Lp (Int×Int×Int×Int×oI) (Int×Int×Int×oI⊕jA):=fun(D,M,N,O,U,Y,Z,F,_)=>bif decide (D<(F.length:Int)) then(ag F D).bind fun an=>(LS an).bind fun ah=>bif !ah then some (.inr (.inr (0,0,0,()))) else J (aa .i64 (D+1))<|some (.inl ((D+1),M,N,O,U,Y,Z,F,())) else some (.inr (.inl (M,N,O,U,Y,Z,F,())))
def qn (x:ae):Option (pN×Bool):=(ab Ei (x,0,0,0,0,())).bind fun(F,D,U,Y,Z,_)=>J (0<=(0:Int)/\(0:Int)<=D/\D<=F.length)<|(qB ((F.take D.toNat).drop (0:Int).toNat) 46).bind fun cut=>bif !decide ((cut.length:Int)=3) then some ((0,0,0,[]),false) else(ag cut 0).bind fun a6=>(zy a6).bind fun number=>(ag cut 1).bind fun a7=>(zy a7).bind fun M=>(ag cut 2).bind fun a8=>(zy a8).bind fun N=>bif !number.2 then some ((0,0,0,[]),false) else bif !M.2 then some ((0,0,0,[]),false) else bif !N.2 then some ((0,0,0,[]),false) else bif decide (D<(F.length:Int)) then J (aa .i64 (D+1))<|J (0<=(D+1)/\(D+1)<=(F.length:Int)/\(F.length:Int)<=F.length)<|(qB ((F.take (F.length:Int).toNat).drop (D+1).toNat) 46).bind fun O=>bif decide (4<(O.length:Int)) then some ((0,0,0,[]),false) else(ab vP (0,U,Y,Z,number.1,M.1,N.1,O,())).bind fun o=>match o with|.inl (b5,b6,b7,b3,b4,bb,bp,_)=>some ((b3,b4,bb,bp),true)|.inr (an,ar,av,_)=>some ((an,ar,av,[]),false) else bif decide (4<0) then some ((0,0,0,[]),false) else(ab vP (0,U,Y,Z,number.1,M.1,N.1,[],())).bind fun ah=>match ah with|.inl (b8,ca,cc,bx,b0,b1,b2,_)=>some ((bx,b0,b1,b2),true)|.inr (az,aE,a1,_)=>some ((az,aE,a1,[]),false)
def R0 (op:Int):sJ:=(ag ([acB,acT,acC,acD,acA,abZ,abY,acz,kr]:aD) op).bind fun D=>some D
def zV:Lp (ae×Int×pO) (ae×Int×pO):=fun(F,D,M)=>bif decide (D<(F.length:Int)) then(ag F D).bind fun b=>bif decide ((b.toNat:Int)<48) then J (aa .i64 (D+1))<|some (.inl (F,(D+1),M)) else(ag F D).bind fun N=>bif decide (57<(N.toNat:Int)) then J (aa .i64 (D+1))<|some (.inl (F,(D+1),M)) else some (.inr (F,D,M)) else some (.inr (F,D,M))
def Fb:Lp (ae×Nz) (pO⊕Bool×Int×oI):=fun(D,F,op,M,N,O,U,_)=>bif decide (op<8) then J (0<=(0:Int)/\(0:Int)<=F/\F<=D.length)<|(R0 op).bind fun sign=>bif decide (((D.take F.toNat).drop (0:Int).toNat)=sign) then J (0<=F/\F<=(D.length:Int)/\(D.length:Int)<=D.length)<|(qn ((D.take (D.length:Int).toNat).drop F.toNat)).bind fun parse=>some (.inr (.inr (parse.2,op,parse.1.1,parse.1.2.1,parse.1.2.2.1,parse.1.2.2.2,()))) else J (aa .i64 (op+1))<|some (.inl (D,F,(op+1),M,N,O,U,())) else some (.inr (.inl (M,N,O,U,())))
def Mf (s:ae):Option ((Int×pN)×Bool):=bif decide (s=kr) then some ((8,0,0,0,[]),true) else(ab zV (s,0,0,0,0,0,())).bind fun(F,D,ah,an,J,M,_)=>(ab Fb (F,D,0,ah,an,J,M,())).bind fun o=>match o with|.inl (av,az,aE,a1,_)=>some ((0,0,0,0,[]),false)|.inr (ar,N,O,U,Y,Z,_)=>some ((N,O,U,Y,Z),ar)
def Eg:Lp (aD×Int×aD×Int×Ia×kM×Unit) (aD×Int×Ia×kM×Unit⊕Unit):=fun(M,F,m,k,D,N,_)=>bif decide (k<(m.length:Int)) then(ag m k).bind fun O=>(Mf O).bind fun one=>bif !one.2 then some (.inr (.inr (()))) else J (D.length+([one.1]:Ia).length<=1000000000)<|J (aa .i64 (k+1))<|some (.inl (M,F,m,(k+1),(D++([one.1]:Ia)),N,())) else some (.inr (.inl (M,F,D,N,())))
def Ef:Lp (aD×Int×kM×Unit) (kM×Unit⊕Unit):=fun(l,i,N,_)=>bif decide (i<(l.length:Int)) then(ag l i).bind fun Y=>(qB Y 44).bind fun D=>bif decide (4<(D.length:Int)) then some (.inr (.inr (()))) else(ab Eg (l,i,D,0,[],N,())).bind fun o=>match o with|.inl (U,F,M,O,_)=>J (O.length+([M]:kM).length<=1000000000)<|J (aa .i64 (F+1))<|some (.inl (U,(F+1),(O++([M]:kM)),()))|.inr (_)=>some (.inr (.inr (()))) else some (.inr (.inl (N,())))
def zU (s:ae):Option (kM×Bool):=(qB s 124).bind fun cut=>bif decide (80<(s.length:Int)) then some ([],false) else bif decide (4<(cut.length:Int)) then some ([],false) else(ab Ef (cut,0,[],())).bind fun D=>match D with|.inl (F,_)=>some (F,true)|.inr (_)=>some ([],false)
def oU:Lp (ae×xl) (ae×gV⊕Unit):=fun(D,i,M,_)=>let N:Option (ae×xl⊕ae×gV⊕Unit):=(ag D i).bind fun F=>J (aa .u8 ((F.toNat:Int) - 97))<|J (0<=((F.toNat:Int) - 97)/\((F.toNat:Int) - 97)<M.length)<|(M[((F.toNat:Int) - 97).toNat]?).bind fun q=>J (aa .i64 (i+1))<|some (.inl (D,(i+1),(M.set ((F.toNat:Int) - 97).toNat 1),()));bif decide (i<(D.length:Int)) then(ag D i).bind fun b=>bif decide ((b.toNat:Int)<97) then some (.inr (.inr (()))) else(ag D i).bind fun O=>bif decide (122<(O.toNat:Int)) then some (.inr (.inr (()))) else bif decide (0<i) then J (aa .i64 (i - 1))<|(ag D (i - 1)).bind fun U=>(ag D i).bind fun Y=>bif decide ((Y.toNat:Int)<=(U.toNat:Int)) then some (.inr (.inr (()))) else N else N else some (.inr (.inl (D,M,())))
def zw (s:ae):UE:=J ((26:Int)=(26:Int)/\0<=(26:Int)/\(26:Int)<=1000000000)<|bif decide (s=oa) then some ((List.replicate (26:Int).toNat 0),true) else(ab oU (s,0,(List.replicate (26:Int).toNat 0),())).bind fun o=>match o with|.inl (F,D,_)=>some (D,decide (0<(F.length:Int)))|.inr (_)=>some ([],false)
def EI:Lp (ae×iP) Bt:=fun(F,D,i,_)=>let M:UInt8->Option (ae×iP⊕Bt):=fun b=>bif decide (97<=(IntKind.wrap .u64 (b.toNat:Int))) then bif decide ((IntKind.wrap .u64 (b.toNat:Int))<=102) then J (aa .i64 (i+1))<|some (.inl (F,(IntKind.wrap .u64 ((IntKind.wrap .u64 ((IntKind.wrap .u64 (D*16))+(IntKind.wrap .u64 (b.toNat:Int)))) - 87)),(i+1),())) else some (.inr (.inr (0,()))) else some (.inr (.inr (0,())));bif decide (i<16) then(ag F i).bind fun b=>bif decide (48<=(IntKind.wrap .u64 (b.toNat:Int))) then bif decide ((IntKind.wrap .u64 (b.toNat:Int))<=57) then J (aa .i64 (i+1))<|some (.inl (F,(IntKind.wrap .u64 ((IntKind.wrap .u64 ((IntKind.wrap .u64 (D*16))+(IntKind.wrap .u64 (b.toNat:Int)))) - 48)),(i+1),())) else M b else M b else some (.inr (.inl (D,())))
def nT (s:ae):sG:=bif !decide ((s.length:Int)=16) then some (0,false) else(ab EI (s,0,0,())).bind fun o=>match o with|.inl (D,_)=>some (D,true)|.inr (F,_)=>some (F,false)
def Ac (s:ae):bz:=bif decide (0<(s.length:Int)) then J (aa .i64 ((s.length:Int) - 1))<|(ag s ((s.length:Int) - 1)).bind fun b=>some (decide ((b.toNat:Int)=42)) else some false
def Ad (s:ae):bz:=(Ac s).bind fun star=>bif !star then(vZ s).bind fun check=>some check else J (aa .i64 ((s.length:Int) - 1))<|J (0<=(0:Int)/\(0:Int)<=((s.length:Int) - 1)/\((s.length:Int) - 1)<=s.length)<|(EG ((s.take ((s.length:Int) - 1).toNat).drop (0:Int).toNat)).bind fun M=>bif M then(zx ((s.take ((s.length:Int) - 1).toNat).drop (0:Int).toNat)).bind fun D=>J (aa .i64 (D+1))<|J (0<=(D+1)/\(D+1)<=(((s.take ((s.length:Int) - 1).toNat).drop (0:Int).toNat).length:Int)/\(((s.take ((s.length:Int) - 1).toNat).drop (0:Int).toNat).length:Int)<=((s.take ((s.length:Int) - 1).toNat).drop (0:Int).toNat).length)<|(zj ((((s.take ((s.length:Int) - 1).toNat).drop (0:Int).toNat).take (((s.take ((s.length:Int) - 1).toNat).drop (0:Int).toNat).length:Int).toNat).drop (D+1).toNat)).bind fun letter=>some letter else(zj ((s.take ((s.length:Int) - 1).toNat).drop (0:Int).toNat)).bind fun F=>some F
def ji (w:ae) (kind:Int):bz:=bif decide (kind=1) then(vY w).bind fun plain=>some plain else bif decide (kind=2) then(vZ w).bind fun check=>some check else bif decide (kind=3) then(qn w).bind fun parse=>some parse.2 else bif decide (kind=4) then(zU w).bind fun F=>some F.2 else bif decide (kind=5) then(zw w).bind fun labels=>some labels.2 else bif decide (kind=6) then(nT w).bind fun bits=>some bits.2 else bif decide (kind=7) then(Ad w).bind fun D=>some D else some false
def eW (kind:Int) (o:cW):NF:=(jg o).bind fun word=>(dF word.2).bind fun aJ=>bif aJ.1 then(ji word.1 kind).bind fun is=>bif !is then(fi 1 aJ.2).bind fun fail=>some (word.1,fail) else some (word.1,aJ.2) else some (word.1,aJ.2)
def wc:Lp (aD×lu) jq:=fun(D,F,i,_)=>bif decide (i<(D.length:Int)) then(ag D i).bind fun M=>bif decide (M=F) then some (.inr (.inr (()))) else J (aa .i64 (i+1))<|some (.inl (D,F,(i+1),())) else some (.inr (.inl (())))
def mM (l:aD) (s:ae):bz:=(ab wc (l,s,0,())).bind fun o=>match o with|.inl (_)=>some false|.inr (_)=>some true
def j8 (kind:Int) (l:aD) (o:cW):NF:=(eW kind o).bind fun take=>(dF take.2).bind fun aJ=>bif aJ.1 then(mM l take.1).bind fun D=>bif D then(fi 3 aJ.2).bind fun fail=>some (take.1,fail) else some (take.1,aJ.2) else some (take.1,aJ.2)
def FF (b:Int):bH:=let D:bH:=bif decide ((bits .and .u64 (b.fdiv (2 ^(min (52:Int).toNat (IntKind.bits .u64)))) 2047)=2047) then some 6 else bif decide ((bits .and .u64 (b.fdiv (2 ^(min (52:Int).toNat (IntKind.bits .u64)))) 2047)=0) then bif decide ((bits .and .u64 b 4503599627370495)=0) then bif decide ((b.fdiv (2 ^(min (63:Int).toNat (IntKind.bits .u64))))=1) then some 3 else bif decide ((bits .and .u64 (b.fdiv (2 ^(min (52:Int).toNat (IntKind.bits .u64)))) 2047)=0) then bif decide ((bits .and .u64 b 4503599627370495)=0) then some 4 else bif decide ((b.fdiv (2 ^(min (63:Int).toNat (IntKind.bits .u64))))=1) then some 2 else some 5 else bif decide ((b.fdiv (2 ^(min (63:Int).toNat (IntKind.bits .u64))))=1) then some 2 else some 5 else bif decide ((bits .and .u64 (b.fdiv (2 ^(min (52:Int).toNat (IntKind.bits .u64)))) 2047)=0) then bif decide ((bits .and .u64 b 4503599627370495)=0) then some 4 else bif decide ((b.fdiv (2 ^(min (63:Int).toNat (IntKind.bits .u64))))=1) then some 2 else some 5 else bif decide ((b.fdiv (2 ^(min (63:Int).toNat (IntKind.bits .u64))))=1) then some 2 else some 5 else bif decide ((bits .and .u64 (b.fdiv (2 ^(min (52:Int).toNat (IntKind.bits .u64)))) 2047)=0) then bif decide ((bits .and .u64 b 4503599627370495)=0) then some 4 else bif decide ((b.fdiv (2 ^(min (63:Int).toNat (IntKind.bits .u64))))=1) then some 2 else some 5 else bif decide ((b.fdiv (2 ^(min (63:Int).toNat (IntKind.bits .u64))))=1) then some 2 else some 5;J (0<=(52:Int))<|J (0<=(63:Int))<|bif decide ((bits .and .u64 (b.fdiv (2 ^(min (52:Int).toNat (IntKind.bits .u64)))) 2047)=2047) then bif !decide ((bits .and .u64 b 4503599627370495)=0) then some 0 else bif decide ((bits .and .u64 (b.fdiv (2 ^(min (52:Int).toNat (IntKind.bits .u64)))) 2047)=2047) then bif decide ((b.fdiv (2 ^(min (63:Int).toNat (IntKind.bits .u64))))=1) then some 1 else D else D else bif decide ((bits .and .u64 (b.fdiv (2 ^(min (52:Int).toNat (IntKind.bits .u64)))) 2047)=2047) then bif decide ((b.fdiv (2 ^(min (63:Int).toNat (IntKind.bits .u64))))=1) then some 1 else D else D
def Ae (b:Int):sJ:=(FF b).bind fun kind=>bif decide (kind=0) then some Wl else(Aw b).bind fun hex=>some hex
def k6 (l:aD) (o:cW):NF:=(jg o).bind fun word=>(dF word.2).bind fun aJ=>bif aJ.1 then(mM l word.1).bind fun D=>bif !D then(fi 1 aJ.2).bind fun fail=>some (word.1,fail) else some (word.1,aJ.2) else some (word.1,aJ.2)
def Jm:adj:=fun(i,F,M,D,N,O,U,_)=>bif decide (i<(D.length:Int)) then J (0<=i/\i<D.length)<|(D[i.toNat]?).bind fun y=>J (F.length+([y.1]:aD).length<=1000000000)<|J (aa .i64 (i+1))<|some (.inl ((i+1),(F++([y.1]:aD)),M,D,N,O,U,())) else some (.inr (F,M,D,N,O,U,()))
def JE (l:je) (D:aK) (F:aS) (J:fW) (M:aS):Option (aD×lH):=(ab Jm (0,[],l,D,F,J,M,())).bind fun(ah,N,O,U,Y,Z,_)=>some (ah,N,O,U,Y,Z)
def j6 (o:cW):Option (Bool×cW):=(dF o).bind fun aJ=>bif aJ.1 then some (decide (aJ.2.2.1<(aJ.2.1.2.1.length:Int)),aJ.2) else some (false,aJ.2)
def C4:Lp (ae×Bu) jr:=fun(F,i,D,M,N,O,U,_)=>bif decide (i<(D.length:Int)) then(ag D i).bind fun Y=>bif decide (Y.1=F) then some (.inr (.inr (i,()))) else J (aa .i64 (i+1))<|some (.inl (F,(i+1),D,M,N,O,U,())) else some (.inr (.inl (())))
def vH (p:lH) (s:ae):bH:=(ab C4 (s,0,p.1,p.2.1,p.2.2.1,p.2.2.2.1,p.2.2.2.2,())).bind fun o=>match o with|.inl (_)=>some (-1)|.inr (D,_)=>some D
def kT:Lp (ae×Cp) (ae×Cp):=fun(ah,an,F,N,O,U,Y,Z,a1,a6,a7,a8,bb,bp,bx,_)=>let ar:Bool×cW->ae×cW->Option (ae×Cp⊕ae×Cp):=fun D take=>bif D.1 then(mM F take.1).bind fun aE=>bif aE then(fi 3 D.2).bind fun M=>J (F.length+([take.1]:aD).length<=1000000000)<|some (.inl (ah,an,(F++([take.1]:aD)),N,O,U,Y,Z,M.1.1,M.1.2.1,M.1.2.2,M.2.1,M.2.2.1,M.2.2.2.1,M.2.2.2.2,())) else J (F.length+([take.1]:aD).length<=1000000000)<|some (.inl (ah,an,(F++([take.1]:aD)),N,O,U,Y,Z,D.2.1.1,D.2.1.2.1,D.2.1.2.2,D.2.2.1,D.2.2.2.1,D.2.2.2.2.1,D.2.2.2.2.2,())) else J (F.length+([take.1]:aD).length<=1000000000)<|some (.inl (ah,an,(F++([take.1]:aD)),N,O,U,Y,Z,D.2.1.1,D.2.1.2.1,D.2.1.2.2,D.2.2.1,D.2.2.2.1,D.2.2.2.2.1,D.2.2.2.2.2,()));(j6 ((a1,a6,a7),a8,bb,bp,bx)).bind fun more=>bif more.1 then(eW 1 more.2).bind fun take=>(dF take.2).bind fun aJ=>bif aJ.1 then(vH (N,O,U,Y,Z) take.1).bind fun place=>bif decide (place<0) then(fi 4 aJ.2).bind fun fail=>(dF fail).bind fun D=>ar D take else(dF aJ.2).bind fun av=>ar av take else(dF aJ.2).bind fun az=>ar az take else some (.inr (ah,an,F,N,O,U,Y,Z,more.2.1.1,more.2.1.2.1,more.2.1.2.2,more.2.2.1,more.2.2.2.1,more.2.2.2.2.1,more.2.2.2.2.2,()))
def Qz (l:je) (F:aK) (O:aS) (U:fW) (Y:aS) (o:cW):UG:=(fA (F.length:Int) 16 o).bind fun full=>(JE l F O U Y).bind fun D=>(j8 7 D.1 full).bind fun fresh=>(k6 ([iF,pe,hW]:aD) fresh.2).bind fun one=>(J (l.length=D.2.1.length)<|J (F.length=D.2.2.1.length)<|J (O.length=D.2.2.2.1.length)<|J (U.length=D.2.2.2.2.1.length)<|J (Y.length=D.2.2.2.2.2.length)<|ab kT (fresh.1,one.1,[],D.2.1,D.2.2.1,D.2.2.2.1,D.2.2.2.2.1,D.2.2.2.2.2,one.2.1.1,one.2.1.2.1,one.2.1.2.2,one.2.2.1,one.2.2.2.1,one.2.2.2.2.1,one.2.2.2.2.2,())).bind fun(M,N,ah,an,Z,ar,av,az,aE,a1,a6,a7,a8,bb,bp,_)=>J (Z.length+([(M,N,ah)]:aK).length<=1000000000)<|some (an,(Z++([(M,N,ah)]:aK)),ar,av,az,((aE,a1,a6),a7,a8,bb,bp))
def Ki:Lp (Int×aD×jz) (aD×jz):=fun(i,F,D,_)=>bif decide (i<(D.length:Int)) then J (0<=i/\i<D.length)<|(D[i.toNat]?).bind fun y=>J (F.length+([y.1]:aD).length<=1000000000)<|J (aa .i64 (i+1))<|some (.inl ((i+1),(F++([y.1]:aD)),D,())) else some (.inr (F,D,()))
def ED (l:aS):Option (aD×aS):=(ab Ki (0,[],l,())).bind fun(F,D,_)=>some (F,D)
def KB:Lp (Int×aD×fW×Unit) (aD×fW×Unit):=fun(i,F,D,_)=>bif decide (i<(D.length:Int)) then J (0<=i/\i<D.length)<|(D[i.toNat]?).bind fun y=>J (F.length+([y.1]:aD).length<=1000000000)<|J (aa .i64 (i+1))<|some (.inl ((i+1),(F++([y.1]:aD)),D,())) else some (.inr (F,D,()))
def Lq (l:fW):Option (aD×fW):=(ab KB (0,[],l,())).bind fun(F,D,_)=>some (F,D)
def Lo (kind:Int) (o:cW) (l:aD):Option (ae×cW×aD):=(eW kind o).bind fun take=>(dF take.2).bind fun aJ=>bif aJ.1 then(mM l take.1).bind fun D=>bif D then(fi 3 aJ.2).bind fun fail=>some (take.1,fail,l) else some (take.1,aJ.2,l) else some (take.1,aJ.2,l)
def kU:Lp Cp Cp:=fun(N,M,O,U,Y,Z,ah,an,ar,av,az,aE,a1,a6,_)=>(j6 ((an,ar,av),az,aE,a1,a6)).bind fun more=>bif more.1 then(Lo 6 more.2 M).bind fun D=>J (M.length=D.2.2.length)<|(fA (D.2.2.length:Int) 4 D.2.1).bind fun F=>J (D.2.2.length+([D.1]:aD).length<=1000000000)<|some (.inl (N,(D.2.2++([D.1]:aD)),O,U,Y,Z,ah,F.1.1,F.1.2.1,F.1.2.2,F.2.1,F.2.2.1,F.2.2.2.1,F.2.2.2.2,())) else some (.inr (N,M,O,U,Y,Z,ah,more.2.1.1,more.2.1.2.1,more.2.1.2.2,more.2.2.1,more.2.2.2.1,more.2.2.2.2.1,more.2.2.2.2.2,()))
def QO (l:je) (O:aK) (U:aS) (D:fW) (Y:aS) (o:cW):UG:=(fA (D.length:Int) 16 o).bind fun full=>(Lq D).bind fun lists=>(j8 2 lists.1 full).bind fun fresh=>(eW 6 fresh.2).bind fun take=>J (([take.1]:aD).length<=1000000000)<|(J (D.length=lists.2.length)<|ab kU (fresh.1,([take.1]:aD),l,O,U,lists.2,Y,take.2.1.1,take.2.1.2.1,take.2.1.2.2,take.2.2.1,take.2.2.2.1,take.2.2.2.2.1,take.2.2.2.2.2,())).bind fun(F,N,Z,ah,an,M,ar,av,az,aE,a1,a6,a7,a8,_)=>J (M.length+([(F,N)]:fW).length<=1000000000)<|some (Z,ah,an,(M++([(F,N)]:fW)),ar,((av,az,aE),a1,a6,a7,a8))
def mB (U:ae) (l:je) (M:aK) (D:aS) (N:fW) (F:aS) (o:cW):UG:=bif decide (U=nS) then(fA (l.length:Int) 8 o).bind fun full=>(JD l M D N F).bind fun names=>(j8 1 names.1 full).bind fun fresh=>(eW 6 fresh.2).bind fun take=>(nT take.1).bind fun bits=>(Ae bits.1).bind fun text=>(k6 ([jJ,wa]:aD) take.2).bind fun one=>J (l.length=names.2.1.length)<|J (names.2.1.length+([(fresh.1,text,one.1)]:je).length<=1000000000)<|J (M.length=names.2.2.1.length)<|J (D.length=names.2.2.2.1.length)<|J (N.length=names.2.2.2.2.1.length)<|J (F.length=names.2.2.2.2.2.length)<|some ((names.2.1++([(fresh.1,text,one.1)]:je)),names.2.2.1,names.2.2.2.1,names.2.2.2.2.1,names.2.2.2.2.2,one.2) else bif decide (U=qA) then(Qz l M D N F o).bind fun O=>some (O.1,O.2.1,O.2.2.1,O.2.2.2.1,O.2.2.2.2.1,O.2.2.2.2.2) else bif decide (U=ui) then(fA (D.length:Int) 16 o).bind fun az=>(ED D).bind fun Y=>(j8 2 Y.1 az).bind fun ah=>J (D.length=Y.2.length)<|(eW 3 ah.2).bind fun ar=>J (Y.2.length+([(ah.1,ar.1)]:aS).length<=1000000000)<|some (l,M,(Y.2++([(ah.1,ar.1)]:aS)),N,F,ar.2) else bif decide (U=qG) then(QO l M D N F o).bind fun hash=>some (hash.1,hash.2.1,hash.2.2.1,hash.2.2.2.1,hash.2.2.2.2.1,hash.2.2.2.2.2) else bif decide (U=tL) then(fA (F.length:Int) 8 o).bind fun aE=>(ED F).bind fun Z=>(j8 1 Z.1 aE).bind fun an=>J (F.length=Z.2.length)<|(eW 5 an.2).bind fun av=>J (Z.2.length+([(an.1,av.1)]:aS).length<=1000000000)<|some (l,M,D,N,(Z.2++([(an.1,av.1)]:aS)),av.2) else(fi 1 o).bind fun fail=>some (l,M,D,N,F,fail)
def gE (o:cW):Option cW:=(j6 o).bind fun more=>bif more.1 then J (aa .i64 (more.2.2.1+1))<|(fi 1 (more.2.1,(more.2.2.1+1),more.2.2.2)).bind fun fail=>some fail else some more.2
def j9:Lp (gi×Int×Int×Int×Bu) (gi×Int×Int×Bu⊕jA):=fun(D,i,ah,an,ar,N,O,U,Y,Z,_)=>bif decide (i<(D.length:Int)) then(ag D i).bind fun aE=>(jg (aE,0,0,0,0)).bind fun word=>bif decide (0<i) then(mB word.1 N O U Y Z word.2).bind fun line=>(gE line.2.2.2.2.2).bind fun end_=>(dF end_).bind fun aJ=>bif !aJ.1 then some (.inr (.inr (aJ.2.2.2.1,aJ.2.2.2.2.1,aJ.2.2.2.2.2,()))) else J (aa .i64 (i+1))<|some (.inl (D,(i+1),ah,an,ar,line.1,line.2.1,line.2.2.1,line.2.2.2.1,line.2.2.2.2.1,())) else bif !decide (word.1=RT) then(fi 1 word.2).bind fun fail=>(gE fail).bind fun av=>(dF av).bind fun F=>bif !F.1 then some (.inr (.inr (F.2.2.2.1,F.2.2.2.2.1,F.2.2.2.2.2,()))) else J (aa .i64 (i+1))<|some (.inl (D,(i+1),ah,an,ar,N,O,U,Y,Z,())) else(gE word.2).bind fun az=>(dF az).bind fun M=>bif !M.1 then some (.inr (.inr (M.2.2.2.1,M.2.2.2.2.1,M.2.2.2.2.2,()))) else J (aa .i64 (i+1))<|some (.inl (D,(i+1),ah,an,ar,N,O,U,Y,Z,())) else some (.inr (.inl (D,ah,an,ar,N,O,U,Y,Z,())))
def zS (text:ae):Option (lH×jy):=(Af text).bind fun read=>bif !decide (read.2.1=0) then some (([],[],[],[],[]),read.2) else(ab j9 (read.1,0,0,0,0,[],[],[],[],[],())).bind fun o=>match o with|.inl (D,ar,ah,an,F,J,M,N,O,_)=>bif decide ((D.length:Int)=0) then some (([],[],[],[],[]),(1,0,0)) else some ((F,J,M,N,O),(0,0,0))|.inr (U,Y,Z,_)=>some (([],[],[],[],[]),(U,Y,Z))
def EC:Lp (aS×lu) (Unit⊕p5):=fun(D,F,i,_)=>bif decide (i<(D.length:Int)) then(ag D i).bind fun M=>bif decide (M.1=F) then(ag D i).bind fun N=>some (.inr (.inr (N.2,()))) else J (aa .i64 (i+1))<|some (.inl (D,F,(i+1),())) else some (.inr (.inl (())))
def wb (l:aS) (s:ae):q8:=(ab EC (l,s,0,())).bind fun o=>match o with|.inl (_)=>some ([],false)|.inr (D,_)=>some (D,true)
def FE (x:xR) (name:ae) (version:ae):bz:=bif decide (x.1=name) then some (decide (x.2.1=version)) else some false
def nQ:Lp (Int×NL) NL:=fun(D,a7,a8,N,O,bb,bp,F,M,Y,Z,ah,an,ar,b0,b1,b2,b3,b4,b5,b6,av,az,U,aE,a1,a6,_)=>let bx:Bool->Bool×cW->Option (Int×NL⊕NL):=fun same aJ=>bif same then(fi 3 aJ.2).bind fun fail=>J (aa .i64 (D+1))<|some (.inl ((D+1),a7,a8,N,O,bb,bp,F,M,Y,Z,ah,an,ar,fail.1.1,fail.1.2.1,fail.1.2.2,fail.2.1,fail.2.2.1,fail.2.2.2.1,fail.2.2.2.2,av,az,U,aE,a1,a6,())) else J (aa .i64 (D+1))<|some (.inl ((D+1),a7,a8,N,O,bb,bp,F,M,Y,Z,ah,an,ar,aJ.2.1.1,aJ.2.1.2.1,aJ.2.1.2.2,aJ.2.2.1,aJ.2.2.2.1,aJ.2.2.2.2.1,aJ.2.2.2.2.2,av,az,U,aE,a1,a6,()));bif decide (D<(((bif F then 0 else M.length+1):Nat):Int)) then(dF ((b0,b1,b2),b3,b4,b5,b6)).bind fun aJ=>bif aJ.1 then only (!F)<|J (0<=D/\D<=(M.length:Int))<|bif decide (D=(M.length:Int)) then only (!F)<|(FE (Y,Z,ah,an,ar,av,az,(bif U then[] else(aE++[(a1,a6)]))) N O).bind fun same=>bx same aJ else only (!F)<|(M[D.toNat]?).bind fun y=>(FE y N O).bind fun b7=>bx b7 aJ else J (aa .i64 (D+1))<|some (.inl ((D+1),a7,a8,N,O,bb,bp,F,M,Y,Z,ah,an,ar,aJ.2.1.1,aJ.2.1.2.1,aJ.2.1.2.2,aJ.2.2.1,aJ.2.2.2.1,aJ.2.2.2.2.1,aJ.2.2.2.2.2,av,az,U,aE,a1,a6,())) else some (.inr (a7,a8,N,O,bb,bp,F,M,Y,Z,ah,an,ar,b0,b1,b2,b3,b4,b5,b6,av,az,U,aE,a1,a6,()))
def Fa (x:ae) (em:Bool) (l:Bv) (o:ae) (b3:ae) (b4:ae) (b5:ae) (b6:Bool) (b8:cW) (bx:aK) (b0:aK) (bp:Bool) (b1:oK) (cx:ae) (b2:aK):Option (ae×Bool×Bv×ae×ae×ae×ae×Bool×cW×aK×aK×Bool×oK×ae×aK):=(fA (((bif em then 0 else l.length+1):Nat):Int) 60 b8).bind fun full=>(eW 2 full).bind fun take=>(eW 3 take.2).bind fun D=>(ab nQ (0,x,[],take.1,D.1,[],[],em,l,o,b3,b4,b5,b6,D.2.1.1,D.2.1.2.1,D.2.1.2.2,D.2.2.1,D.2.2.2.1,D.2.2.2.2.1,D.2.2.2.2.2,bx,b0,bp,b1,cx,b2,())).bind fun(a7,c4,a8,bb,c5,c6,O,F,Y,Z,ah,an,ar,b7,ca,cc,cd,ch,cj,cp,av,az,U,aE,a1,a6,_)=>(eW 6 ((b7,ca,cc),cd,ch,cj,cp)).bind fun M=>(eW 5 M.2).bind fun N=>(j6 N.2).bind fun more=>bif more.1 then(ag more.2.1.2.1 more.2.2.1).bind fun c3=>bif decide (c3=FA) then J (aa .i64 (more.2.2.1+1))<|J (F.length+2<=1000000000)<|some (a7,false,(bif O then[] else(F++[(Y,Z,ah,an,ar,av,az,(bif U then[] else(aE++[(a1,a6)])))])),a8,bb,M.1,N.1,true,(more.2.1,(more.2.2.1+1),more.2.2.2),[],[],true,[],[],[]) else J (F.length+2<=1000000000)<|some (a7,false,(bif O then[] else(F++[(Y,Z,ah,an,ar,av,az,(bif U then[] else(aE++[(a1,a6)])))])),a8,bb,M.1,N.1,false,more.2,[],[],true,[],[],[]) else J (F.length+2<=1000000000)<|some (a7,false,(bif O then[] else(F++[(Y,Z,ah,an,ar,av,az,(bif U then[] else(aE++[(a1,a6)])))])),a8,bb,M.1,N.1,false,more.2,[],[],true,[],[],[])
def jE:Lp (Int×NH) NH:=fun(O,Z,ah,U,Y,M,a6,a7,ar,av,az,aE,a1,_)=>let an:Bool×cW->ae×cW->Option (Int×NH⊕NH):=fun D F=>bif D.1 then bif decide (O<=(M.length:Int)) then(fi 2 D.2).bind fun N=>J (M.length+([F.1]:aD).length<=1000000000)<|some (.inl (O,Z,ah,U,Y,(M++([F.1]:aD)),N.1.1,N.1.2.1,N.1.2.2,N.2.1,N.2.2.1,N.2.2.2.1,N.2.2.2.2,())) else J (M.length+([F.1]:aD).length<=1000000000)<|some (.inl (O,Z,ah,U,Y,(M++([F.1]:aD)),D.2.1.1,D.2.1.2.1,D.2.1.2.2,D.2.2.1,D.2.2.2.1,D.2.2.2.2.1,D.2.2.2.2.2,())) else J (M.length+([F.1]:aD).length<=1000000000)<|some (.inl (O,Z,ah,U,Y,(M++([F.1]:aD)),D.2.1.1,D.2.1.2.1,D.2.1.2.2,D.2.2.1,D.2.2.2.1,D.2.2.2.2.1,D.2.2.2.2.2,()));bif decide (0<O) then(j6 ((a6,a7,ar),av,az,aE,a1)).bind fun more=>bif more.1 then(eW 1 more.2).bind fun F=>(dF F.2).bind fun aJ=>bif aJ.1 then(mM M F.1).bind fun bp=>bif bp then(fi 3 aJ.2).bind fun fail=>(dF fail).bind fun D=>an D F else(dF aJ.2).bind fun a8=>an a8 F else(dF aJ.2).bind fun bb=>an bb F else some (.inr (Z,ah,U,Y,M,more.2.1.1,more.2.1.2.1,more.2.1.2.2,more.2.2.1,more.2.2.2.1,more.2.2.2.2.1,more.2.2.2.2.2,())) else some (.inr (Z,ah,U,Y,M,a6,a7,ar,av,az,aE,a1,()))
def fy (F:Int) (o:cW):Option (xm×cW):=(eW 2 o).bind fun take=>(eW 4 take.2).bind fun D=>(ab jE (F,[],[],take.1,D.1,[],D.2.1.1,D.2.1.2.1,D.2.1.2.2,D.2.2.1,D.2.2.2.1,D.2.2.2.2.1,D.2.2.2.2.2,())).bind fun(av,az,J,M,ar,N,O,U,Y,Z,ah,an,_)=>some ((J,M,ar),((N,O,U),Y,Z,ah,an))
def nM:adp:=fun(x7,O,D,ar,av,az,aE,a1,a6,a7,a8,bb,Z,ah,M,N,U,an,bx,b0,b1,b2,b3,b4,b5,_)=>let Y:Bool×cW->Option (Int×ae×Int×rE⊕ae×rE):=fun aJ=>J (aa .i64 (D+1))<|some (.inl (x7,O,(D+1),ar,av,az,aE,a1,a6,a7,a8,bb,Z,ah,M,N,U,an,aJ.2.1.1,aJ.2.1.2.1,aJ.2.1.2.2,aJ.2.2.1,aJ.2.2.2.1,aJ.2.2.2.2.1,aJ.2.2.2.2.2,()));let bp:Bool×cW->Option (Int×ae×Int×rE⊕ae×rE):=fun aJ=>(fi 3 aJ.2).bind fun F=>J (aa .i64 (D+1))<|some (.inl (x7,O,(D+1),ar,av,az,aE,a1,a6,a7,a8,bb,Z,ah,M,N,U,an,F.1.1,F.1.2.1,F.1.2.2,F.2.1,F.2.2.1,F.2.2.2.1,F.2.2.2.2,()));bif decide (D<=x7) then(dF ((bx,b0,b1),b2,b3,b4,b5)).bind fun aJ=>bif aJ.1 then only (!M)<|J (0<=D/\D<=(N.length:Int))<|bif decide (D=(N.length:Int)) then only (!M)<|bif decide (U=O) then bp aJ else Y aJ else only (!M)<|(N[D.toNat]?).bind fun b6=>bif decide (b6.1=O) then bp aJ else Y aJ else Y aJ else some (.inr (O,ar,av,az,aE,a1,a6,a7,a8,bb,Z,ah,M,N,U,an,bx,b0,b1,b2,b3,b4,b5,()))
def Kj (x:ae) (ch:ae) (cj:ae) (cp:ae) (cx:Bool) (U:ae) (l:aK) (N:aK) (em:Bool) (D:oK) (o:ae) (Z:aK) (F:cW):By:=let Y:cW->By:=fun M=>only (!em)<|J (0<=((((bif em then 0 else D.length+1):Nat):Int) - 1)/\((((bif em then 0 else D.length+1):Nat):Int) - 1)<=(D.length:Int))<|bif decide (((((bif em then 0 else D.length+1):Nat):Int) - 1)=(D.length:Int)) then only (!em)<|(fy 4 M).bind fun c5=>none else only (!em)<|(D[((((bif em then 0 else D.length+1):Nat):Int) - 1).toNat]?).bind fun y=>(fy 4 M).bind fun c6=>none;let O:cW->By:=fun fail=>(fA (l.length:Int) 4 fail).bind fun full=>(fy 0 full).bind fun a1=>J (l.length+([a1.1]:aK).length<=1000000000)<|none;J (aa .i64 ((((bif em then 0 else D.length+1):Nat):Int) - 1))<|bif decide (U=uj) then bif decide (0<(N.length:Int)) then(fi 1 F).bind fun fail=>O fail else bif decide (0<(((bif em then 0 else D.length+1):Nat):Int)) then(fi 1 F).bind fun ar=>O ar else O F else bif decide (U=tW) then bif decide (((((bif em then 0 else D.length+1):Nat):Int) - 1)<0) then(fA (N.length:Int) 8 F).bind fun av=>(fy 4 av).bind fun a6=>J (N.length+([a6.1]:aK).length<=1000000000)<|none else only (!em)<|J (0<=((((bif em then 0 else D.length+1):Nat):Int) - 1)/\((((bif em then 0 else D.length+1):Nat):Int) - 1)<=(D.length:Int))<|bif decide (((((bif em then 0 else D.length+1):Nat):Int) - 1)=(D.length:Int)) then only (!em)<|(fA (Z.length:Int) 8 F).bind fun M=>Y M else only (!em)<|(D[((((bif em then 0 else D.length+1):Nat):Int) - 1).toNat]?).bind fun c3=>(fA (c3.2.length:Int) 8 F).bind fun az=>Y az else bif decide (U=oX) then(fA (((bif em then 0 else D.length+1):Nat):Int) 4 F).bind fun aE=>(eW 1 aE).bind fun take=>(ab nM (((((bif em then 0 else D.length+1):Nat):Int) - 1),take.1,0,x,ch,cj,cp,cx,[],[],[],[],l,N,em,D,o,Z,take.2.1.1,take.2.1.2.1,take.2.1.2.2,take.2.2.1,take.2.2.2.1,take.2.2.2.2.1,take.2.2.2.2.2,())).bind fun(cd,b6,b7,b8,ca,cc,dk,ds,c8,dd,a7,a8,an,ah,bb,bp,bx,b0,b1,b2,b3,b4,b5,_)=>J (ah.length+2<=1000000000)<|some (b6,b7,b8,ca,cc,a7,a8,false,(bif an then[] else(ah++[(bb,bp)])),cd,[],((bx,b0,b1),b2,b3,b4,b5)) else(fi 1 F).bind fun c4=>none
def ail:adp:=fun(x7,O,D,ar,av,az,aE,a1,a6,a7,a8,bb,Z,ah,M,N,U,an,bx,b0,b1,b2,b3,b4,b5,_)=>let Y:Bool×cW->Option (Int×ae×Int×rE⊕ae×rE):=fun aJ=>J (aa .i64 (D+1))<|some (.inl (x7,O,(D+1),ar,av,az,aE,a1,a6,a7,a8,bb,Z,ah,M,N,U,an,aJ.2.1.1,aJ.2.1.2.1,aJ.2.1.2.2,aJ.2.2.1,aJ.2.2.2.1,aJ.2.2.2.2.1,aJ.2.2.2.2.2,()));let bp:Bool×cW->Option (Int×ae×Int×rE⊕ae×rE):=fun aJ=>(fi 3 aJ.2).bind fun F=>J (aa .i64 (D+1))<|some (.inl (x7,O,(D+1),ar,av,az,aE,a1,a6,a7,a8,bb,Z,ah,M,N,U,an,F.1.1,F.1.2.1,F.1.2.2,F.2.1,F.2.2.1,F.2.2.2.1,F.2.2.2.2,()));bif decide (D<=x7) then(dF ((bx,b0,b1),b2,b3,b4,b5)).bind fun aJ=>bif aJ.1 then only (!M)<|J (0<=D/\D<=(N.length:Int))<|bif decide (D=(N.length:Int)) then only (!M)<|bif decide (U=O) then bp aJ else Y aJ else only (!M)<|(N[D.toNat]?).bind fun b6=>bif decide (b6.1=O) then bp aJ else Y aJ else Y aJ else some (.inr (O,ar,av,az,aE,a1,a6,a7,a8,bb,Z,ah,M,N,U,an,bx,b0,b1,b2,b3,b4,b5,()))
def y7 (x:ae) (O:ae) (U:ae) (Y:ae) (Z:Bool) (x2:ae) (l:aK) (F:aK) (em:Bool) (D:oK) (o:ae) (N:aK) (M:cW):By:=let aE:cW->By:=fun ah=>only (!em)<|J (0<=((((bif em then 0 else D.length+1):Nat):Int) - 1)/\((((bif em then 0 else D.length+1):Nat):Int) - 1)<=(D.length:Int))<|bif decide (((((bif em then 0 else D.length+1):Nat):Int) - 1)=(D.length:Int)) then only (!em)<|(fy 4 ah).bind fun az=>J (N.length+([az.1]:aK).length<=1000000000)<|only (!em)<|J (0<=((((bif em then 0 else D.length+1):Nat):Int) - 1)/\((((bif em then 0 else D.length+1):Nat):Int) - 1)<=(D.length:Int))<|bif decide (((((bif em then 0 else D.length+1):Nat):Int) - 1)=(D.length:Int)) then only (!em)<|some (x,O,U,Y,Z,l,F,em,D,o,(N++([az.1]:aK)),az.2) else none else only (!em)<|(D[((((bif em then 0 else D.length+1):Nat):Int) - 1).toNat]?).bind fun y=>(fy 4 ah).bind fun bx=>none;let an:cW->By:=fun fail=>(fA (l.length:Int) 4 fail).bind fun full=>(fy 0 full).bind fun ar=>J (l.length+([ar.1]:aK).length<=1000000000)<|some (x,O,U,Y,Z,(l++([ar.1]:aK)),F,em,D,o,N,ar.2);J (aa .i64 ((((bif em then 0 else D.length+1):Nat):Int) - 1))<|bif decide (x2=uj) then bif decide (0<(F.length:Int)) then(fi 1 M).bind fun fail=>an fail else bif decide (0<(((bif em then 0 else D.length+1):Nat):Int)) then(fi 1 M).bind fun a1=>an a1 else an M else bif decide (x2=tW) then bif decide (((((bif em then 0 else D.length+1):Nat):Int) - 1)<0) then(fA (F.length:Int) 8 M).bind fun a7=>(fy 4 a7).bind fun av=>J (F.length+([av.1]:aK).length<=1000000000)<|some (x,O,U,Y,Z,l,(F++([av.1]:aK)),em,D,o,N,av.2) else only (!em)<|J (0<=((((bif em then 0 else D.length+1):Nat):Int) - 1)/\((((bif em then 0 else D.length+1):Nat):Int) - 1)<=(D.length:Int))<|bif decide (((((bif em then 0 else D.length+1):Nat):Int) - 1)=(D.length:Int)) then only (!em)<|(fA (N.length:Int) 8 M).bind fun ah=>aE ah else only (!em)<|(D[((((bif em then 0 else D.length+1):Nat):Int) - 1).toNat]?).bind fun bp=>(fA (bp.2.length:Int) 8 M).bind fun a8=>aE a8 else bif decide (x2=oX) then(fA (((bif em then 0 else D.length+1):Nat):Int) 4 M).bind fun bb=>(eW 1 bb).bind fun take=>(ab ail (((((bif em then 0 else D.length+1):Nat):Int) - 1),take.1,0,x,O,U,Y,Z,[],[],[],[],l,F,em,D,o,N,take.2.1.1,take.2.1.2.1,take.2.1.2.2,take.2.2.1,take.2.2.2.1,take.2.2.2.2.1,take.2.2.2.2.2,())).bind fun _=>none else(fi 1 M).bind fun a6=>some (x,O,U,Y,Z,l,F,em,D,o,N,a6)
def kW:Lp (gi×Int×BB) (gi×BB⊕ae×jA):=fun(N,M,a6,a7,a8,bb,b1,D,F,an,ar,av,az,aE,U,Y,O,Z,a1,ah,_)=>let b2:ae×ae×ae×ae×Bool×aK×aK×Bool×oK×ae×aK×cW->Option (gi×Int×BB⊕gi×BB⊕ae×jA):=fun within=>only (!D)<|J (0<=((((bif D then 0 else F.length+1):Nat):Int) - 1)/\((((bif D then 0 else F.length+1):Nat):Int) - 1)<=(F.length:Int))<|bif decide (((((bif D then 0 else F.length+1):Nat):Int) - 1)=(F.length:Int)) then only (!D)<|(gE within.2.2.2.2.2.2.2.2.2.2.2).bind fun b6=>(dF b6).bind fun b0=>bif !b0.1 then some (.inr (.inr ([],b0.2.2.2.1,b0.2.2.2.2.1,b0.2.2.2.2.2,()))) else J (aa .i64 (M+1))<|some (.inl (N,(M+1),a6,a7,a8,bb,b1,D,F,within.1,within.2.1,within.2.2.1,within.2.2.2.1,within.2.2.2.2.1,within.2.2.2.2.2.1,within.2.2.2.2.2.2.1,within.2.2.2.2.2.2.2.1,within.2.2.2.2.2.2.2.2.1,within.2.2.2.2.2.2.2.2.2.1,within.2.2.2.2.2.2.2.2.2.2.1,())) else none;let b3:ae×cW->Option (gi×Int×BB⊕gi×BB⊕ae×jA):=fun take=>(gE take.2).bind fun end_=>(dF end_).bind fun aJ=>bif !aJ.1 then some (.inr (.inr ([],aJ.2.2.2.1,aJ.2.2.2.2.1,aJ.2.2.2.2.2,()))) else J (aa .i64 (M+1))<|some (.inl (N,(M+1),a6,a7,a8,bb,take.1,D,F,an,ar,av,az,aE,U,Y,O,Z,a1,ah,()));bif decide (M<(N.length:Int)) then(ag N M).bind fun cc=>(jg (cc,0,0,0,0)).bind fun word=>bif decide (M=0) then bif !decide (word.1=SY) then(fi 1 word.2).bind fun fail=>(eW 1 fail).bind fun take=>b3 take else(eW 1 word.2).bind fun b8=>b3 b8 else bif decide (word.1=SZ) then(Fa b1 D F an ar av az aE word.2 U Y O Z a1 ah).bind fun entry=>(gE entry.2.2.2.2.2.2.2.2.1).bind fun b4=>(dF b4).bind fun bp=>bif !bp.1 then some (.inr (.inr ([],bp.2.2.2.1,bp.2.2.2.2.1,bp.2.2.2.2.2,()))) else J (aa .i64 (M+1))<|some (.inl (N,(M+1),a6,a7,a8,bb,entry.1,entry.2.1,entry.2.2.1,entry.2.2.2.1,entry.2.2.2.2.1,entry.2.2.2.2.2.1,entry.2.2.2.2.2.2.1,entry.2.2.2.2.2.2.2.1,entry.2.2.2.2.2.2.2.2.2.1,entry.2.2.2.2.2.2.2.2.2.2.1,entry.2.2.2.2.2.2.2.2.2.2.2.1,entry.2.2.2.2.2.2.2.2.2.2.2.2.1,entry.2.2.2.2.2.2.2.2.2.2.2.2.2.1,entry.2.2.2.2.2.2.2.2.2.2.2.2.2.2,())) else bif decide ((((bif D then 0 else F.length+1):Nat):Int)=0) then(fi 1 word.2).bind fun b7=>(gE b7).bind fun b5=>(dF b5).bind fun bx=>bif !bx.1 then some (.inr (.inr ([],bx.2.2.2.1,bx.2.2.2.2.1,bx.2.2.2.2.2,()))) else J (aa .i64 (M+1))<|some (.inl (N,(M+1),a6,a7,a8,bb,b1,D,F,an,ar,av,az,aE,U,Y,O,Z,a1,ah,())) else bif decide (word.1=oX) then J (aa .i64 ((((bif D then 0 else F.length+1):Nat):Int) - 1))<|J (aa .i64 ((((bif D then 0 else F.length+1):Nat):Int) - 1))<|only (!D)<|J (0<=((((bif D then 0 else F.length+1):Nat):Int) - 1)/\((((bif D then 0 else F.length+1):Nat):Int) - 1)<=(F.length:Int))<|bif decide (((((bif D then 0 else F.length+1):Nat):Int) - 1)=(F.length:Int)) then only (!D)<|(Kj an ar av az aE word.1 U Y O Z a1 ah word.2).bind fun within=>b2 within else only (!D)<|(F[((((bif D then 0 else F.length+1):Nat):Int) - 1).toNat]?).bind fun y=>none else J (aa .i64 ((((bif D then 0 else F.length+1):Nat):Int) - 1))<|J (aa .i64 ((((bif D then 0 else F.length+1):Nat):Int) - 1))<|only (!D)<|J (0<=((((bif D then 0 else F.length+1):Nat):Int) - 1)/\((((bif D then 0 else F.length+1):Nat):Int) - 1)<=(F.length:Int))<|bif decide (((((bif D then 0 else F.length+1):Nat):Int) - 1)=(F.length:Int)) then only (!D)<|(y7 an ar av az aE word.1 U Y O Z a1 ah word.2).bind fun ca=>b2 ca else only (!D)<|(F[((((bif D then 0 else F.length+1):Nat):Int) - 1).toNat]?).bind fun cd=>none else some (.inr (.inl (N,a6,a7,a8,bb,b1,D,F,an,ar,av,az,aE,U,Y,O,Z,a1,ah,())))
def zT (x:ae):Option ((ae×Bv)×jy):=(Af x).bind fun read=>bif !decide (read.2.1=0) then some (([],[]),read.2) else(ab kW (read.1,0,[],0,0,0,[],true,[],[],[],[],[],false,[],[],true,[],[],[],())).bind fun o=>match o with|.inl (ar,bb,b0,bp,bx,av,D,J,az,aE,a1,a6,a7,M,N,F,O,a8,U,_)=>bif decide ((ar.length:Int)=0) then some (([],[]),(1,0,0)) else some ((av,(bif D then[] else(J++[(az,aE,a1,a6,a7,M,N,(bif F then[] else(O++[(a8,U)])))]))),(0,0,0))|.inr (Y,Z,ah,an,_)=>some ((Y,[]),(Z,ah,an))
def qk:Lp (aD×Bool×Int×ae×je×aK×aS×fW×aS×ae×aD×oJ×Unit) (Bool×ae×je×aK×aS×fW×aS×ae×oJ×Unit⊕p5):=fun(O,U,F,az,ah,an,ar,av,Y,Z,M,N,_)=>bif decide (F<(O.length:Int)) then(ag O F).bind fun a1=>(zT a1).bind fun D=>bif !decide (D.2.1=0) then some (.inr (.inr ([],()))) else(mM M D.1.1).bind fun aE=>bif aE then some (.inr (.inr ([],()))) else J (M.length+([D.1.1]:aD).length<=1000000000)<|J (N.length+([D.1]:oJ).length<=1000000000)<|J (aa .i64 (F+1))<|some (.inl (O,U,(F+1),az,ah,an,ar,av,Y,Z,(M++([D.1.1]:aD)),(N++([D.1]:oJ)),())) else some (.inr (.inl (U,az,ah,an,ar,av,Y,Z,N,())))
def FC (x:ae) (J:ae) (D:aD):Option ((lH×ae×oJ)×Bool):=(zS x).bind fun parse=>bif !decide (parse.2.1=0) then some ((([],[],[],[],[]),[],[]),false) else bif decide (6<(D.length:Int)) then some ((([],[],[],[],[]),[],[]),false) else(wb parse.1.2.2.2.2 J).bind fun pair=>(ab qk (D,pair.2,0,[],parse.1.1,parse.1.2.1,parse.1.2.2.1,parse.1.2.2.2.1,parse.1.2.2.2.2,pair.1,[],[],())).bind fun o=>match o with|.inl (M,ar,N,O,U,Y,Z,ah,F,_)=>some (((N,O,U,Y,Z),ah,F),M)|.inr (an,_)=>some ((([],[],[],[],[]),an,[]),false)
def En (c:Int):bz:=bif decide (c=32) then some true else some (decide (c=9))
def DP:Lp (Int×ae×BA) (Int×ae×BA):=fun(O,F,N,D,M)=>bif decide (D<(F.length:Int)) then(ag F D).bind fun U=>(En (U.toNat:Int)).bind fun Y=>bif !Y then J (aa .i64 (D+1))<|some (.inl (O,F,N,(D+1),M)) else some (.inr (O,F,N,D,M)) else some (.inr (O,F,N,D,M))
def yX:Lp (Int×ae×Int×BA) (Int×ae×BA⊕pO):=fun(M,F,U,N,D,O)=>bif decide (D<N) then(ag F D).bind fun Y=>bif decide ((Y.toNat:Int)<33) then J (aa .i64 (D+1))<|some (.inr (.inr (0,1,M,(D+1),()))) else(ag F D).bind fun Z=>bif decide (126<(Z.toNat:Int)) then J (aa .i64 (D+1))<|some (.inr (.inr (0,1,M,(D+1),()))) else J (aa .i64 (D+1))<|some (.inl (M,F,U,N,(D+1),O)) else some (.inr (.inl (M,F,U,N,O)))
def vL:Lp (Int×ae×Int×OQ) (OQ⊕pO):=fun(az,O,M,Y)=>bif decide (M<(O.length:Int)) then(ag O M).bind fun b=>(En (b.toNat:Int)).bind fun blank=>bif blank then J (aa .i64 (M+1))<|some (.inl (az,O,(M+1),Y)) else(ab DP (az,O,M,M,Y)).bind fun(ah,a1,D,Z,a7,bb,bp,bx,b3,an,aE)=>bif decide ((an.length:Int)=20) then J (aa .i64 (D+1))<|some (.inr (.inr (0,2,ah,(D+1),()))) else J (aa .i64 (Z - D))<|bif decide (80<(Z - D)) then J (aa .i64 (D+1))<|some (.inr (.inr (0,2,ah,(D+1),()))) else(ab yX (ah,a1,D,Z,D,a7,bb,bp,bx,b3,an,aE)).bind fun o=>match o with|.inl (b5,U,F,N,a8,b0,b1,b2,b4,ar,av,_)=>J (0<=F/\F<=N/\N<=U.length)<|J (ar.length+([((U.take N.toNat).drop F.toNat)]:aD).length<=1000000000)<|J (aa .i64 (F+1))<|J (av.length+([(F+1)]:aA).length<=1000000000)<|some (.inl (b5,U,N,a8,b0,b1,b2,b4,(ar++([((U.take N.toNat).drop F.toNat)]:aD)),(av++([(F+1)]:aA)),()))|.inr a6=>some (.inr (.inr a6)) else some (.inr (.inl (Y)))
def zn (x:Int) (M:ae):Option (H8×jy):=(kV M TY).bind fun cut=>(ab vL (x,cut.1,0,0,0,0,0,x,[],[],())).bind fun D=>match D with|.inl (ah,an,ar,av,Z,F,J,_)=>some ((Z,F,J),(0,0,0))|.inr (N,O,U,Y,_)=>some ((N,[],[]),(O,U,Y))
def zc:Lp (Int×Int×ae×NI) (NI⊕jA):=fun(F,no,rest,M,N,O,D,_)=>bif !decide (rest=[]) then bif decide (F<no) then some (.inr (.inr (2,no,0,()))) else(kV rest TZ).bind fun cut=>(zn no cut.1).bind fun split=>bif !((decide (split.2.1=0)&&(decide (split.2.2.1=0)&&decide (split.2.2.2=0)))) then some (.inr (.inr (split.2.1,split.2.2.1,split.2.2.2,()))) else bif decide (0<(split.1.2.1.length:Int)) then J (D.length+([split.1]:gi).length<=1000000000)<|J (aa .i64 (no+1))<|some (.inl (F,(no+1),cut.2.1,M,N,O,(D++([split.1]:gi)),())) else J (aa .i64 (no+1))<|some (.inl (F,(no+1),cut.2.1,M,N,O,D,())) else some (.inr (.inl (M,N,O,D,())))
def Q2 (s:ae) (D:Int):ND:=(ab zc (D,1,s,0,0,0,[],())).bind fun o=>match o with|.inl (Y,O,U,F,_)=>some (F,(0,0,0))|.inr (J,M,N,_)=>some ([],(J,M,N))
def zD (s:ae):ND:=bif decide (20000<(s.length:Int)) then some ([],(2,0,0)) else(Q2 s 800).bind fun read=>some (read.1,read.2)
def jD (o:bP):Option (Bool×bP):=some (decide (o.2<(o.1.2.1.length:Int)),o)
def fh (o:bP):Cq:=(jD o).bind fun more=>bif !more.1 then some (.inr ((.iface 295 (.agg #[(.int .i64 1),(.int .i64 more.2.1.1),(.int .i64 0)])),())) else J (aa .i64 (more.2.2+1))<|J (aa .i64 ((more.2.2+1) - 1))<|(ag more.2.1.2.1 ((more.2.2+1) - 1)).bind fun D=>some (.inl (D,(more.2.1,(more.2.2+1)),()))
def cr (e:Int) (o:bP):Option sH:=bif decide (0<o.2) then bif decide (o.2<=(o.1.2.2.length:Int)) then J (aa .i64 (o.2 - 1))<|(ag o.1.2.2 (o.2 - 1)).bind fun D=>some ((.iface 295 (.agg #[(.int .i64 e),(.int .i64 o.1.1),(.int .i64 D)])),()) else some ((.iface 295 (.agg #[(.int .i64 e),(.int .i64 o.1.1),(.int .i64 0)])),()) else some ((.iface 295 (.agg #[(.int .i64 e),(.int .i64 o.1.1),(.int .i64 0)])),())
def C6 (D:Int) (o:bP) (l:fx):Option (bP×fx×Unit⊕Value×fx×Unit):=bif decide ((l.length:Int)=D) then(cr 2 o).bind fun(F,_)=>some (.inr (F,l,())) else some (.inl (o,l,()))
def KJ (c:Int):bz:=bif decide (97<=c) then bif decide (c<=122) then some true else bif decide (48<=c) then bif decide (c<=57) then some true else some (decide (c=45)) else some (decide (c=45)) else bif decide (48<=c) then bif decide (c<=57) then some true else some (decide (c=45)) else some (decide (c=45))
def za:Lp (ae×iP) jq:=fun(F,M,D,_)=>bif decide (D<M) then(ag F D).bind fun N=>(KJ (N.toNat:Int)).bind fun O=>bif !O then some (.inr (.inr (()))) else J (aa .i64 (D+1))<|some (.inl (F,M,(D+1),())) else some (.inr (.inl (())))
def EM (s:ae):bz:=bif decide (20<(s.length:Int)) then some false else bif !decide (s=[]) then(ag s 0).bind fun b=>bif decide ((b.toNat:Int)<97) then some false else(ag s 0).bind fun D=>bif decide (122<(D.toNat:Int)) then some false else(ab za (s,(s.length:Int),0,())).bind fun o=>match o with|.inl (_)=>some true|.inr (_)=>some false else(ab za (s,(s.length:Int),0,())).bind fun F=>match F with|.inl (_)=>some true|.inr (_)=>some false
def ql (s:ae):bz:=bif !decide (s=[]) then(EM s).bind fun front=>bif front then J (aa .i64 ((s.length:Int) - 1))<|(ag s ((s.length:Int) - 1)).bind fun b=>some (!decide ((b.toNat:Int)=45)) else some false else some false
def D1 (s:ae):q8:=(ql s).bind fun plain=>some (s,plain)
def CJ (o:bP):Cq:=(fh o).bind fun F=>match F with|.inl (word,D,_)=>(D1 word).bind fun plain=>bif !plain.2 then(cr 1 D).bind fun(J,_)=>some (.inr (J,())) else some (.inl (plain.1,D,()))|.inr (M,_)=>some (.inr (M,()))
def Jt (x:ae×Nat×Bool):sJ:=some x.1
def IM (x:ae×Nat×Bool) (o:ae):GF:=(Jt x).bind fun key=>some (decide (key=o),o)
def CA:Lp (fx×td) GB:=fun(M,N,D,F,_)=>bif decide (D<N) then(ag M D).bind fun O=>(IM O F).bind fun place=>bif place.1 then some (.inr (.inr (D,place.2,()))) else J (aa .i64 (D+1))<|some (.inl (M,N,(D+1),place.2,())) else some (.inr (.inl (F,())))
def O1 (s:fx) (o:ae):GI:=(ab CA (s,(s.length:Int),0,o,())).bind fun D=>match D with|.inl (F,_)=>some ((-1),F)|.inr (M,J,_)=>some (M,J)
def yd (l:fx) (s:ae):bH:=(O1 l s).bind fun D=>some D.1
def Iw (s:ae) (o:bP) (l:fx):Option (ae×bP×fx×Unit⊕Value×fx×Unit):=(yd l s).bind fun place=>bif decide (0<=place) then(cr 3 o).bind fun(D,_)=>some (.inr (D,l,())) else some (.inl (s,o,l,()))
def Po (o:bP):Option (Nat×uI⊕sH):=(fh o).bind fun F=>match F with|.inl (word,D,_)=>(zg word).bind fun parse=>bif !parse.2 then(cr 1 D).bind fun(J,_)=>some (.inr (J,())) else some (.inl (parse.1,D,()))|.inr (M,_)=>some (.inr (M,()))
def KH (s:ae):Option (Bool×Bool):=bif decide (s=jJ) then some (decide (s=jJ),true) else some (decide (s=jJ),decide (s=wa))
def Pu (o:bP):Option (Bool×uI⊕sH):=(fh o).bind fun F=>match F with|.inl (word,D,_)=>(KH word).bind fun open_=>bif !open_.2 then(cr 1 D).bind fun(J,_)=>some (.inr (J,())) else some (.inl (open_.1,D,()))|.inr (M,_)=>some (.inr (M,()))
def I2 (l:fx) (D:fM) (F:fX) (M:fY) (N:iC) (o:bP):H9:=(C6 8 o l).bind fun ah=>match ah with|.inl (room,U,_)=>(J (l.length=U.length)<|(CJ room).bind fun an=>match an with|.inl (take,bb,_)=>((Iw take bb U).bind fun ar=>match ar with|.inl (unique,b0,O,_)=>(J (U.length=O.length)<|(Po b0).bind fun av=>match av with|.inl (Y,bp,_)=>((Pu bp).bind fun az=>match az with|.inl (Z,bx,_)=>J (O.length+([(unique,Y,Z)]:fx).length<=1000000000)<|some (.inl ((O++([(unique,Y,Z)]:fx)),D,F,M,N,bx,()))|.inr (pv,_)=>some (.inr (pv,O,D,F,M,N,())))|.inr (aE,_)=>some (.inr (aE,O,D,F,M,N,())))|.inr (a1,b1,_)=>some (.inr (a1,b1,D,F,M,N,())))|.inr (a6,_)=>some (.inr (a6,U,D,F,M,N,())))|.inr (a7,a8,_)=>some (.inr (a7,a8,D,F,M,N,()))
def Dh (D:Int) (o:bP) (l:fM):Option (bP×fM×Unit⊕Value×fM×Unit):=bif decide ((l.length:Int)=D) then(cr 2 o).bind fun(F,_)=>some (.inr (F,l,())) else some (.inl (o,l,()))
def IG (s:ae) (suffix:ae):bz:=bif decide ((suffix.length:Int)<=(s.length:Int)) then J (aa .i64 ((s.length:Int) - (suffix.length:Int)))<|J (0<=((s.length:Int) - (suffix.length:Int))/\((s.length:Int) - (suffix.length:Int))<=(s.length:Int)/\(s.length:Int)<=s.length)<|some (decide (((s.take (s.length:Int).toNat).drop ((s.length:Int) - (suffix.length:Int)).toNat)=suffix)) else some false
def Pr (s:ae) (suffix:ae):q8:=(IG s suffix).bind fun D=>bif !D then some (s,false) else J (aa .i64 ((s.length:Int) - (suffix.length:Int)))<|J (0<=(0:Int)/\(0:Int)<=((s.length:Int) - (suffix.length:Int))/\((s.length:Int) - (suffix.length:Int))<=s.length)<|some (((s.take ((s.length:Int) - (suffix.length:Int)).toNat).drop (0:Int).toNat),true)
def yB (s:ae) (suffix:ae):q8:=(Pr s suffix).bind fun D=>some (D.1,D.2)
def CL (s:ae) (D:ae):bz:=bif decide ((D.length:Int)<=(s.length:Int)) then J (0<=(0:Int)/\(0:Int)<=(D.length:Int)/\(D.length:Int)<=s.length)<|some (decide (((s.take (D.length:Int).toNat).drop (0:Int).toNat)=D)) else some false
def Pt (s:ae) (D:ae):q8:=(CL s D).bind fun F=>bif !F then some (s,false) else J (0<=(D.length:Int)/\(D.length:Int)<=(s.length:Int)/\(s.length:Int)<=s.length)<|some (((s.take (s.length:Int).toNat).drop (D.length:Int).toNat),true)
def De (s:ae) (F:ae):q8:=(Pt s F).bind fun D=>some (D.1,D.2)
def EN (s:ae):Option iw:=(De s AW).bind fun D=>bif !D.2 then some ([],s) else(kV D.1 TW).bind fun cut=>bif !cut.2.2 then some ([],s) else some (cut.1,cut.2.1)
def tB (s:ae):bz:=(EN s).bind fun split=>(ql split.2).bind fun plain=>bif plain then bif decide (split.1=[]) then bif decide (split.2=s) then some true else(ql split.1).bind fun D=>some D else(ql split.1).bind fun F=>some F else some false
def zZ (s:ae):bz:=(yB s kr).bind fun D=>bif !D.2 then(tB s).bind fun check=>some check else(EN D.1).bind fun split=>(EM split.2).bind fun front=>bif front then bif decide (split.1=[]) then bif decide (split.2=D.1) then some true else(ql split.1).bind fun plain=>some plain else(ql split.1).bind fun F=>some F else some false
def Ek (s:ae):q8:=(zZ s).bind fun D=>some (s,D)
def Pp (o:bP):Cq:=(fh o).bind fun J=>match J with|.inl (word,F,_)=>(Ek word).bind fun D=>bif !D.2 then(cr 1 F).bind fun(M,_)=>some (.inr (M,())) else some (.inl (D.1,F,()))|.inr (N,_)=>some (.inr (N,()))
def JG (x:NB):sJ:=some x.1
def IN (x:NB) (o:ae):GF:=(JG x).bind fun key=>some (decide (key=o),o)
def CC:Lp (fM×td) GB:=fun(M,N,D,F,_)=>bif decide (D<N) then(ag M D).bind fun O=>(IN O F).bind fun place=>bif place.1 then some (.inr (.inr (D,place.2,()))) else J (aa .i64 (D+1))<|some (.inl (M,N,(D+1),place.2,())) else some (.inr (.inl (F,())))
def O3 (s:fM) (o:ae):GI:=(ab CC (s,(s.length:Int),0,o,())).bind fun D=>match D with|.inl (F,_)=>some ((-1),F)|.inr (M,J,_)=>some (M,J)
def Iz (l:fM) (s:ae):bH:=(O3 l s).bind fun D=>some D.1
def Ix (s:ae) (o:bP) (l:fM):Option (ae×bP×fM×Unit⊕Value×fM×Unit):=(Iz l s).bind fun place=>bif decide (0<=place) then(cr 3 o).bind fun(D,_)=>some (.inr (D,l,())) else some (.inl (s,o,l,()))
def oP:Lp (aD×ae×iP) jr:=fun(F,M,N,D,_)=>bif decide (D<N) then(ag F D).bind fun O=>bif decide (M=O) then some (.inr (.inr (D,()))) else J (aa .i64 (D+1))<|some (.inl (F,M,N,(D+1),())) else some (.inr (.inl (())))
def nJ (s:aD) (v:ae):bH:=(ab oP (s,v,(s.length:Int),0,())).bind fun o=>match o with|.inl (_)=>some (-1)|.inr (D,_)=>some D
def KI (s:ae):sG:=(nJ ([iF,pe,hW]:aD) s).bind fun index=>some ((if index>0 then index else 0),decide (0<=index))
def Py (o:bP):Uz:=(fh o).bind fun F=>match F with|.inl (word,D,_)=>(KI word).bind fun kind=>bif !kind.2 then(cr 1 D).bind fun(J,_)=>some (.inr (J,())) else some (.inl (kind.1,D,()))|.inr (M,_)=>some (.inr (M,()))
def ti (p:gU) (s:ae):bH:=(yd p.1 s).bind fun place=>some place
def p8 (s:aD) (v:ae):bz:=(nJ s v).bind fun index=>some (decide (0<=index))
def p9:Lp (ae×Int×aD×NK) (ae×Int×aD×NK⊕Value×OO):=fun(ah,an,Y,D,F,M,N,O,av,az,aE,a1,_)=>(jD ((av,az,aE),a1)).bind fun more=>bif more.1 then(CJ more.2).bind fun a6=>match a6 with|.inl (Z,U,_)=>(ti (D,F,M,N,O) Z).bind fun source=>bif decide (source<0) then(cr 4 U).bind fun(pv,_)=>some (.inr (.inr (pv,D,F,M,N,O,()))) else(p8 Y Z).bind fun ar=>bif ar then(cr 3 U).bind fun(a7,_)=>some (.inr (.inr (a7,D,F,M,N,O,()))) else J (Y.length+([Z]:aD).length<=1000000000)<|some (.inl (ah,an,(Y++([Z]:aD)),D,F,M,N,O,U.1.1,U.1.2.1,U.1.2.2,U.2,()))|.inr (a8,_)=>some (.inr (.inr (a8,D,F,M,N,O,()))) else some (.inr (.inl (ah,an,Y,D,F,M,N,O,more.2.1.1,more.2.1.2.1,more.2.1.2.2,more.2.2,())))
def Jn (l:fx) (ah:fM) (D:fX) (F:fY) (M:iC) (o:bP):H9:=(Dh 16 o ah).bind fun av=>match av with|.inl (room,N,_)=>(J (ah.length=N.length)<|(Pp room).bind fun az=>match az with|.inl (take,cp,_)=>((Ix take cp N).bind fun a1=>match a1 with|.inl (unique,c3,U,_)=>((Py c3).bind fun b3=>match b3 with|.inl (cx,O,_)=>((J (N.length=U.length)<|ab p9 (unique,cx,[],l,U,D,F,M,O.1.1,O.1.2.1,O.1.2.2,O.2,())).bind fun aE=>match aE with|.inl (Y,Z,ar,a6,an,a7,a8,bb,bp,bx,b0,b1,_)=>J (an.length+([(Y,Z,ar)]:fM).length<=1000000000)<|some (.inl (a6,(an++([(Y,Z,ar)]:fM)),a7,a8,bb,((bp,bx,b0),b1),()))|.inr (b8,b2,b4,b5,b6,b7,_)=>some (.inr (b8,b2,b4,b5,b6,b7,())))|.inr (ca,_)=>some (.inr (ca,l,U,D,F,M,())))|.inr (cc,c4,_)=>some (.inr (cc,l,c4,D,F,M,())))|.inr (cd,_)=>some (.inr (cd,l,N,D,F,M,())))|.inr (ch,cj,_)=>some (.inr (ch,l,cj,D,F,M,()))
def DA (D:Int) (o:bP) (l:fX):Option (bP×fX×Unit⊕Value×fX×Unit):=bif decide ((l.length:Int)=D) then(cr 2 o).bind fun(F,_)=>some (.inr (F,l,())) else some (.inl (o,l,()))
def El (s:ae):q8:=(tB s).bind fun check=>some (s,check)
def IF (o:bP):Cq:=(fh o).bind fun F=>match F with|.inl (word,D,_)=>(El word).bind fun full=>bif !full.2 then(cr 1 D).bind fun(J,_)=>some (.inr (J,())) else some (.inl (full.1,D,()))|.inr (M,_)=>some (.inr (M,()))
def J1 (x:ae×gC):sJ:=some x.1
def I0 (x:ae×gC) (o:ae):GF:=(J1 x).bind fun key=>some (decide (key=o),o)
def CF:Lp (fX×td) GB:=fun(M,N,D,F,_)=>bif decide (D<N) then(ag M D).bind fun O=>(I0 O F).bind fun place=>bif place.1 then some (.inr (.inr (D,place.2,()))) else J (aa .i64 (D+1))<|some (.inl (M,N,(D+1),place.2,())) else some (.inr (.inl (F,())))
def Pg (s:fX) (o:ae):GI:=(ab CF (s,(s.length:Int),0,o,())).bind fun D=>match D with|.inl (F,_)=>some ((-1),F)|.inr (M,J,_)=>some (M,J)
def yg (l:fX) (s:ae):bH:=(Pg l s).bind fun D=>some D.1
def ID (s:ae) (o:bP) (l:fX):Option (ae×bP×fX×Unit⊕Value×fX×Unit):=(yg l s).bind fun place=>bif decide (0<=place) then(cr 3 o).bind fun(D,_)=>some (.inr (D,l,())) else some (.inl (s,o,l,()))
def vG:Lp (ae×jA) Bt:=fun(M,F,O,D,_)=>bif decide (D<O) then(ag M D).bind fun U=>bif decide ((U.toNat:Int)<48) then some (.inr (.inr (0,()))) else(ag M D).bind fun Y=>bif decide (57<(Y.toNat:Int)) then some (.inr (.inr (0,()))) else J (aa .i64 (10*F))<|(ag M D).bind fun N=>J (aa .u8 ((N.toNat:Int) - 48))<|J (aa .i64 ((10*F)+(IntKind.wrap .i64 ((N.toNat:Int) - 48))))<|J (aa .i64 (D+1))<|some (.inl (M,((10*F)+(IntKind.wrap .i64 ((N.toNat:Int) - 48))),O,(D+1),())) else some (.inr (.inl (F,())))
def JW (s:ae) (D:Int):sG:=bif decide ((s.length:Int)<1) then some (0,false) else bif decide (D<(s.length:Int)) then some (0,false) else bif decide (1<(s.length:Int)) then(ag s 0).bind fun b=>bif decide ((b.toNat:Int)=48) then some (0,false) else(ab vG (s,0,(s.length:Int),0,())).bind fun o=>match o with|.inl (F,_)=>some (F,true)|.inr (N,_)=>some (N,false) else(ab vG (s,0,(s.length:Int),0,())).bind fun M=>match M with|.inl (J,_)=>some (J,true)|.inr (O,_)=>some (O,false)
def tt:Lp (aD×Int×Int×uJ) (uJ⊕Int×td):=fun(Z,ah,D,N,O,U,Y,an,ar,av,M,_)=>bif decide (D<ah) then(ag Z D).bind fun az=>(JW az 6).bind fun F=>bif !F.2 then some (.inr (.inr (0,0,0,[],()))) else if D=((2:Nat):Int) then J (aa .i64 (D+1))<|some (.inl (Z,ah,(D+1),N,O,U,Y,an,ar,F.1,M,())) else if D=((1:Nat):Int) then J (aa .i64 (D+1))<|some (.inl (Z,ah,(D+1),N,O,U,Y,an,F.1,av,M,())) else if D=((0:Nat):Int) then J (aa .i64 (D+1))<|some (.inl (Z,ah,(D+1),N,O,U,Y,F.1,ar,av,M,())) else none else some (.inr (.inl (N,O,U,Y,an,ar,av,M,())))
def yT (s:ae):Option (gC×Bool):=let D:ae×ae×Bool->Option (gC×Bool):=fun cut=>(strings_Split cut.1 gp).bind fun split=>bif !decide ((split.length:Int)=3) then some (((0,0,0),[]),false) else(ab tt (split,(split.length:Int),0,0,0,0,[],0,0,0,cut.2.1,())).bind fun o=>match o with|.inl (ah,an,ar,av,M,N,F,J,_)=>some (((M,N,F),J),true)|.inr (O,U,Y,Z,_)=>some (((O,U,Y),Z),false);(kV s oa).bind fun cut=>bif cut.2.2 then(D6 cut.2.1).bind fun pre=>bif !pre then some (((0,0,0),[]),false) else D cut else D cut
def IE (o:bP):Option (gC×uI⊕sH):=(fh o).bind fun F=>match F with|.inl (word,D,_)=>(yT word).bind fun parse=>bif !parse.2 then(cr 1 D).bind fun(J,_)=>some (.inr (J,())) else some (.inl (parse.1,D,()))|.inr (M,_)=>some (.inr (M,()))
def Ju (l:fx) (D:fM) (U:fX) (F:fY) (M:iC) (o:bP):H9:=(DA 16 o U).bind fun Z=>match Z with|.inl (room,N,_)=>(J (U.length=N.length)<|(IF room).bind fun ah=>match ah with|.inl (take,a6,_)=>((ID take a6 N).bind fun an=>match an with|.inl (unique,a8,O,_)=>(J (N.length=O.length)<|(IE a8).bind fun ar=>match ar with|.inl (Y,a7,_)=>J (O.length+([(unique,Y)]:fX).length<=1000000000)<|some (.inl (l,D,(O++([(unique,Y)]:fX)),F,M,a7,()))|.inr (pv,_)=>some (.inr (pv,l,D,O,F,M,())))|.inr (av,bb,_)=>some (.inr (av,l,D,bb,F,M,())))|.inr (az,_)=>some (.inr (az,l,D,N,F,M,())))|.inr (aE,a1,_)=>some (.inr (aE,l,D,a1,F,M,()))
def Dr (D:Int) (o:bP) (l:fY):Option (bP×fY×Unit⊕Value×fY×Unit):=bif decide ((l.length:Int)=D) then(cr 2 o).bind fun(F,_)=>some (.inr (F,l,())) else some (.inl (o,l,()))
def JR (x:ae×aA):sJ:=some x.1
def IU (x:ae×aA) (o:ae):GF:=(JR x).bind fun key=>some (decide (key=o),o)
def CD:Lp (fY×td) GB:=fun(M,N,D,F,_)=>bif decide (D<N) then(ag M D).bind fun O=>(IU O F).bind fun place=>bif place.1 then some (.inr (.inr (D,place.2,()))) else J (aa .i64 (D+1))<|some (.inl (M,N,(D+1),place.2,())) else some (.inr (.inl (F,())))
def O' (s:fY) (o:ae):GI:=(ab CD (s,(s.length:Int),0,o,())).bind fun D=>match D with|.inl (F,_)=>some ((-1),F)|.inr (M,J,_)=>some (M,J)
def yf (l:fY) (s:ae):bH:=(O' l s).bind fun D=>some D.1
def IB (s:ae) (o:bP) (l:fY):Option (ae×bP×fY×Unit⊕Value×fY×Unit):=(yf l s).bind fun place=>bif decide (0<=place) then(cr 3 o).bind fun(D,_)=>some (.inr (D,l,())) else some (.inl (s,o,l,()))
def K7 (c:Int):bH:=bif decide (48<=c) then bif decide (c<=57) then J (aa .u8 (c - 48))<|some (c - 48) else bif decide (97<=c) then bif decide (c<=102) then J (aa .u8 (c - 97))<|J (aa .u8 ((c - 97)+10))<|some ((c - 97)+10) else some 16 else some 16 else bif decide (97<=c) then bif decide (c<=102) then J (aa .u8 (c - 97))<|J (aa .u8 ((c - 97)+10))<|some ((c - 97)+10) else some 16 else some 16
def C8:Lp (ae×jA) Bt:=fun(M,F,N,D,_)=>bif decide (D<N) then(ag M D).bind fun b=>(K7 (b.toNat:Int)).bind fun value=>bif decide (15<value) then some (.inr (.inr (0,()))) else J (0<=(4:Int))<|J (aa .i64 (D+1))<|some (.inl (M,(bits .or .u64 (IntKind.wrap .u64 (F*2 ^(min (4:Int).toNat (IntKind.bits .u64)))) (IntKind.wrap .u64 value)),N,(D+1),())) else some (.inr (.inl (F,())))
def Ds (s:ae):sG:=bif !decide ((s.length:Int)=16) then some (0,false) else(ab C8 (s,0,(s.length:Int),0,())).bind fun o=>match o with|.inl (D,_)=>some (D,true)|.inr (F,_)=>some (F,false)
def ye (o:bP):Uz:=(fh o).bind fun J=>match J with|.inl (word,F,_)=>(Ds word).bind fun D=>bif !D.2 then(cr 1 F).bind fun(M,_)=>some (.inr (M,())) else some (.inl (D.1,F,()))|.inr (N,_)=>some (.inr (N,()))
def CP:Lp (aA×jA) jr:=fun(F,M,N,D,_)=>bif decide (D<N) then(ag F D).bind fun O=>bif decide (M=O) then some (.inr (.inr (D,()))) else J (aa .i64 (D+1))<|some (.inl (F,M,N,(D+1),())) else some (.inr (.inl (())))
def PH (s:aA) (v:Int):bH:=(ab CP (s,v,(s.length:Int),0,())).bind fun o=>match o with|.inl (_)=>some (-1)|.inr (D,_)=>some D
def yl (s:aA) (v:Int):bz:=(PH s v).bind fun index=>some (decide (0<=index))
def C7 (D:Int) (o:bP) (l:aA):Option (bP×gV⊕Value×gV):=bif decide ((l.length:Int)=D) then(cr 2 o).bind fun(F,_)=>some (.inr (F,l,())) else some (.inl (o,l,()))
def nI:Lp (ae×aA×NK) (ae×aA×NK⊕Value×OO):=fun(an,U,D,F,M,N,O,az,aE,a1,a6,_)=>(jD ((az,aE,a1),a6)).bind fun more=>bif more.1 then(ye more.2).bind fun a7=>match a7 with|.inl (ah,ar,_)=>((yl U ah).bind fun av=>bif av then(cr 3 ar).bind fun(pv,_)=>some (.inr (.inr (pv,D,F,M,N,O,()))) else(C7 4 ar U).bind fun a8=>match a8 with|.inl (Y,Z,_)=>J (U.length=Z.length)<|J (Z.length+([ah]:aA).length<=1000000000)<|some (.inl (an,(Z++([ah]:aA)),D,F,M,N,O,Y.1.1,Y.1.2.1,Y.1.2.2,Y.2,()))|.inr (bb,bx,_)=>some (.inr (.inr (bb,D,F,M,N,O,()))))|.inr (bp,_)=>some (.inr (.inr (bp,D,F,M,N,O,()))) else some (.inr (.inl (an,U,D,F,M,N,O,more.2.1.1,more.2.1.2.1,more.2.1.2.2,more.2.2,())))
def Jo (l:fx) (D:fM) (F:fX) (Z:fY) (M:iC) (o:bP):H9:=(Dr 16 o Z).bind fun ar=>match ar with|.inl (room,N,_)=>(J (Z.length=N.length)<|(IF room).bind fun av=>match av with|.inl (take,cj,_)=>((IB take cj N).bind fun az=>match az with|.inl (unique,cx,U,_)=>((ye cx).bind fun b1=>match b1 with|.inl (cp,O,_)=>((J (N.length=U.length)<|ab nI (unique,([cp]:aA),l,D,F,U,M,O.1.1,O.1.2.1,O.1.2.2,O.2,())).bind fun aE=>match aE with|.inl (Y,an,a1,a6,a7,ah,a8,bb,bp,bx,b0,_)=>J (ah.length+([(Y,an)]:fY).length<=1000000000)<|some (.inl (a1,a6,a7,(ah++([(Y,an)]:fY)),a8,((bb,bp,bx),b0),()))|.inr (b7,b2,b3,b4,b5,b6,_)=>some (.inr (b7,b2,b3,b4,b5,b6,())))|.inr (b8,_)=>some (.inr (b8,l,D,F,U,M,())))|.inr (ca,c3,_)=>some (.inr (ca,l,D,F,c3,M,())))|.inr (cc,_)=>some (.inr (cc,l,D,F,N,M,())))|.inr (cd,ch,_)=>some (.inr (cd,l,D,F,ch,M,()))
def C5 (D:Int) (o:bP) (l:iC):Option (bP×GC⊕Value×GC):=bif decide ((l.length:Int)=D) then(cr 2 o).bind fun(F,_)=>some (.inr (F,l,())) else some (.inl (o,l,()))
def Js (x:Bw):sJ:=some x.1
def IL (x:Bw) (o:ae):GF:=(Js x).bind fun key=>some (decide (key=o),o)
def Cz:Lp (iC×td) GB:=fun(M,N,D,F,_)=>bif decide (D<N) then(ag M D).bind fun O=>(IL O F).bind fun place=>bif place.1 then some (.inr (.inr (D,place.2,()))) else J (aa .i64 (D+1))<|some (.inl (M,N,(D+1),place.2,())) else some (.inr (.inl (F,())))
def O0 (s:iC) (o:ae):GI:=(ab Cz (s,(s.length:Int),0,o,())).bind fun D=>match D with|.inl (F,_)=>some ((-1),F)|.inr (M,J,_)=>some (M,J)
def yc (l:iC) (s:ae):bH:=(O0 l s).bind fun D=>some D.1
def Iv (s:ae) (o:bP) (l:iC):Option (ae×bP×GC⊕Value×GC):=(yc l s).bind fun place=>bif decide (0<=place) then(cr 3 o).bind fun(D,_)=>some (.inr (D,l,())) else some (.inl (s,o,l,()))
def zb:Lp (ae×jA) (lu⊕eD):=fun(F,O,U,D,_)=>let N:Option (ae×jA⊕lu⊕eD):=(ag F D).bind fun M=>J (aa .u8 ((M.toNat:Int) - 97))<|J (0<=((M.toNat:Int) - 97))<|J (aa .i64 (D+1))<|some (.inl (F,(bits .or .u32 O (IntKind.wrap .u32 (1*2 ^(min ((M.toNat:Int) - 97).toNat (IntKind.bits .u32))))),U,(D+1),()));bif decide (D<U) then(ag F D).bind fun b=>bif decide ((b.toNat:Int)<97) then some (.inr (.inr (0,()))) else(ag F D).bind fun Y=>bif decide (122<(Y.toNat:Int)) then some (.inr (.inr (0,()))) else bif decide (0<D) then(ag F D).bind fun Z=>J (aa .i64 (D - 1))<|(ag F (D - 1)).bind fun ah=>bif decide ((Z.toNat:Int)<=(ah.toNat:Int)) then some (.inr (.inr (0,()))) else N else N else some (.inr (.inl (F,O,())))
def EO (s:ae):sG:=bif decide (s=oa) then some (0,true) else(ab zb (s,0,(s.length:Int),0,())).bind fun o=>match o with|.inl (F,D,_)=>some (D,!decide (F=[]))|.inr (J,_)=>some (J,false)
def IJ (o:bP):Uz:=(fh o).bind fun F=>match F with|.inl (word,D,_)=>(EO word).bind fun parse=>bif !parse.2 then(cr 1 D).bind fun(J,_)=>some (.inr (J,())) else some (.inl (parse.1,D,()))|.inr (M,_)=>some (.inr (M,()))
def I1 (l:fx) (D:fM) (F:fX) (M:fY) (U:iC) (o:bP):H9:=(C5 8 o U).bind fun Z=>match Z with|.inl (room,N,_)=>(J (U.length=N.length)<|(CJ room).bind fun ah=>match ah with|.inl (take,a6,_)=>((Iv take a6 N).bind fun an=>match an with|.inl (unique,a8,O,_)=>(J (N.length=O.length)<|(IJ a8).bind fun ar=>match ar with|.inl (Y,a7,_)=>J (O.length+([(unique,Y)]:iC).length<=1000000000)<|some (.inl (l,D,F,M,(O++([(unique,Y)]:iC)),a7,()))|.inr (pv,_)=>some (.inr (pv,l,D,F,M,O,())))|.inr (av,bb,_)=>some (.inr (av,l,D,F,M,bb,())))|.inr (az,_)=>some (.inr (az,l,D,F,M,N,())))|.inr (aE,a1,_)=>some (.inr (aE,l,D,F,M,a1,()))
def JF (o:bP) (D:Bool) (l:fx) (J:fM) (M:fX) (N:fY) (O:iC):Option (bP×sC⊕Value×sC):=let U:bP->ae->Option (bP×sC⊕Value×sC):=fun F word=>bif !D then(cr 1 F).bind fun(pv,_)=>some (.inr (pv,D,l,J,M,N,O,())) else bif decide (word=nS) then(I2 l J M N O F).bind fun aE=>match aE with|.inl (source,c3,c4,c5,c6,c8,_)=>some (.inl (c8,D,source,c3,c4,c5,c6,()))|.inr (b3,dd)=>some (.inr (b3,D,dd)) else bif decide (word=qA) then(Jn l J M N O F).bind fun a1=>match a1 with|.inl (read,cc,cd,ch,cj,cp,_)=>some (.inl (cp,D,read,cc,cd,ch,cj,()))|.inr (b5,cx)=>some (.inr (b5,D,cx)) else bif decide (word=ui) then(Ju l J M N O F).bind fun a6=>match a6 with|.inl (fV,bb,bp,bx,b0,b1,_)=>some (.inl (b1,D,fV,bb,bp,bx,b0,()))|.inr (b6,b2)=>some (.inr (b6,D,b2)) else bif decide (word=qG) then(Jo l J M N O F).bind fun a7=>match a7 with|.inl (hash,Y,Z,ah,an,ar,_)=>some (.inl (ar,D,hash,Y,Z,ah,an,()))|.inr (b7,av)=>some (.inr (b7,D,av)) else bif decide (word=tL) then(I1 l J M N O F).bind fun a8=>match a8 with|.inl (dk,ds,ea,eb,ec,ed,_)=>some (.inl (ed,D,dk,ds,ea,eb,ec,()))|.inr (b8,eg)=>some (.inr (b8,D,eg)) else(cr 1 F).bind fun(ca,_)=>some (.inr (ca,D,l,J,M,N,O,()));(fh o).bind fun az=>match az with|.inl (word,F,_)=>bif !D then bif decide (word=RT) then some (.inl (F,true,l,J,M,N,O,())) else U F word else U F word|.inr (b4,_)=>some (.inr (b4,D,l,J,M,N,O,()))
def j5:Lp (gi×Int×Int×sC) (sC⊕Value×sC):=fun(ah,an,D,F,M,N,O,U,Y,_)=>bif decide (D<an) then(ag ah D).bind fun az=>(JF (az,0) F M N O U Y).bind fun ar=>match ar with|.inl (parse,Z)=>(jD parse).bind fun more=>bif more.1 then J (aa .i64 (more.2.2+1))<|(cr 1 (more.2.1,(more.2.2+1))).bind fun(pv,_)=>some (.inr (.inr (pv,Z))) else J (aa .i64 (D+1))<|some (.inl (ah,an,(D+1),Z))|.inr av=>some (.inr (.inr av)) else some (.inr (.inl (F,M,N,O,U,Y,())))
def Pw (l:gi) (o:Bool) (D:fx) (F:fM) (J:fX) (M:fY) (N:iC):Option (jy×sC⊕jy×sC):=(ab j5 (l,(l.length:Int),0,o,D,F,J,M,N,())).bind fun O=>match O with|.inl U=>some (.inl ((0,0,0),U))|.inr (Z,Y)=>(rZ Z).bind fun q=>some (.inr (q,Y))
def vO (text:ae):Option (gU×jy):=(zD text).bind fun read=>bif !((decide (read.2.1=0)&&(decide (read.2.2.1=0)&&decide (read.2.2.2=0)))) then some (([],[],[],[],[]),read.2) else(Pw read.1 false [] [] [] [] []).bind fun o=>match o with|.inl (each,U,F,J,M,N,O,_)=>bif (decide (each.1=0)&&(decide (each.2.1=0)&&decide (each.2.2=0))) then bif !U then bif !((decide (1=0)&&(decide (0=0)&&decide (0=0)))) then some (([],[],[],[],[]),(1,0,0)) else some ((F,J,M,N,O),(0,0,0)) else bif !((decide (each.1=0)&&(decide (each.2.1=0)&&decide (each.2.2=0)))) then some (([],[],[],[],[]),each) else some ((F,J,M,N,O),(0,0,0)) else bif !((decide (each.1=0)&&(decide (each.2.1=0)&&decide (each.2.2=0)))) then some (([],[],[],[],[]),each) else some ((F,J,M,N,O),(0,0,0))|.inr (D,Y,av,Z,ah,an,ar,_)=>bif (decide (D.1=0)&&(decide (D.2.1=0)&&decide (D.2.2=0))) then bif !Y then bif !((decide (1=0)&&(decide (0=0)&&decide (0=0)))) then some (([],[],[],[],[]),(1,0,0)) else none else bif !((decide (D.1=0)&&(decide (D.2.1=0)&&decide (D.2.2=0)))) then some (([],[],[],[],[]),D) else none else bif !((decide (D.1=0)&&(decide (D.2.1=0)&&decide (D.2.2=0)))) then some (([],[],[],[],[]),D) else none
def I3 (p:gU) (s:ae):sG:=(yc p.2.2.2.2 s).bind fun place=>bif decide (place<0) then some (0,false) else(ag p.2.2.2.2 place).bind fun D=>some (D.2,true)
def Eo (s:ae):q8:=(ql s).bind fun plain=>some (s,plain)
def CK (o:bP):Cq:=(fh o).bind fun F=>match F with|.inl (word,D,_)=>(Eo word).bind fun plain=>bif !plain.2 then(cr 1 D).bind fun(J,_)=>some (.inr (J,())) else some (.inl (plain.1,D,()))|.inr (M,_)=>some (.inr (M,()))
def EP (s:ae):q8:=(tB s).bind fun check=>some (s,check)
def II (o:bP):Cq:=(fh o).bind fun F=>match F with|.inl (word,D,_)=>(EP word).bind fun full=>bif !full.2 then(cr 1 D).bind fun(J,_)=>some (.inr (J,())) else some (.inl (full.1,D,()))|.inr (M,_)=>some (.inr (M,()))
def cmp_isNaN_string (x:ae):bz:=some (!decide (x=x))
def rI (x:ae) (y:ae):bH:=(cmp_isNaN_string x).bind fun F=>(cmp_isNaN_string y).bind fun D=>bif F then bif D then some 0 else some (-1) else bif D then some 1 else bif Op.bytesLess x y then some (-1) else bif !(Op.bytesLess x y||decide (x=y)) then some 1 else some 0
def cmp_isNaN_int (x:Int):bz:=some (!decide (x=x))
def my (x:Int) (y:Int):bH:=(cmp_isNaN_int x).bind fun F=>(cmp_isNaN_int y).bind fun D=>bif F then bif D then some 0 else some (-1) else bif D then some 1 else bif decide (x<y) then some (-1) else bif decide (y<x) then some 1 else some 0
def J4 (a:ae) (b:ae):bH:=let D:Bool->bH:=fun digits=>bif digits then bif !decide ((a.length:Int)=(b.length:Int)) then(my (a.length:Int) (b.length:Int)).bind fun J=>some J else(strings_Compare a b).bind fun M=>some M else(strings_Compare a b).bind fun N=>some N;(tv a).bind fun digits=>(tv b).bind fun F=>bif digits then bif !F then some (-1) else bif F then bif !digits then some 1 else D digits else D digits else bif F then bif !digits then some 1 else D digits else D digits
def JV:Lp (aD×aD×eD) (aD×jS⊕eD):=fun(D,F,i,_)=>bif decide (i<(D.length:Int)) then bif decide (i<(F.length:Int)) then(ag D i).bind fun M=>(ag F i).bind fun N=>(J4 M N).bind fun parts=>bif !decide (parts=0) then some (.inr (.inr (parts,()))) else J (aa .i64 (i+1))<|some (.inl (D,F,(i+1),())) else some (.inr (.inl (D,F,()))) else some (.inr (.inl (D,F,())))
def Kc (a:aD) (b:aD):bH:=(ab JV (a,b,0,())).bind fun o=>match o with|.inl (D,F,_)=>(my (D.length:Int) (F.length:Int)).bind fun J=>some J|.inr (M,_)=>some M
def yA:Lp (Int×uJ) (uJ⊕eD):=fun(D,N,O,F,ar,U,Y,Z,av,_)=>let ah:Int->Option (Int×uJ⊕uJ⊕eD):=fun M=>bif !decide (M=0) then some (.inr (.inr (M,()))) else J (aa .i64 (D+1))<|some (.inl ((D+1),N,O,F,ar,U,Y,Z,av,()));let an:Int->Option (Int×uJ⊕uJ⊕eD):=fun F=>if D=((2:Nat):Int) then(my F Z).bind fun M=>ah M else if D=((1:Nat):Int) then(my F Y).bind fun az=>ah az else if D=((0:Nat):Int) then(my F U).bind fun aE=>ah aE else none;bif decide (D<3) then if D=((2:Nat):Int) then an F else if D=((1:Nat):Int) then an O else if D=((0:Nat):Int) then an N else none else some (.inr (.inl (N,O,F,ar,U,Y,Z,av,())))
def tu (a:gC) (b:gC):bH:=(ab yA (0,a.1.1,a.1.2.1,a.1.2.2,a.2,b.1.1,b.1.2.1,b.1.2.2,b.2,())).bind fun o=>match o with|.inl (Y,O,U,D,an,Z,ah,F,_)=>bif decide (D=F) then some 0 else bif decide (D=[]) then some 1 else bif decide (F=[]) then some (-1) else(strings_Split D gp).bind fun split=>(strings_Split F gp).bind fun M=>(Kc split M).bind fun J=>some J|.inr (N,_)=>some N
def KN (a:oH) (b:oH):bH:=(rI a.1 b.1).bind fun D=>bif !decide (D=0) then some D else(tu a.2.1 b.2.1).bind fun F=>some F
def IV (z:oH) (D:oH):bz:=(KN D z).bind fun order=>some (decide (order=0))
def xY:Lp (kE×oH×iP) jr:=fun(M,F,N,D,_)=>bif decide (D<N) then(ag M D).bind fun O=>(IV O F).bind fun entry=>bif entry then some (.inr (.inr (D,()))) else J (aa .i64 (D+1))<|some (.inl (M,F,N,(D+1),())) else some (.inr (.inl (())))
def O8 (s:kE) (f:oH):bH:=(ab xY (s,f,(s.length:Int),0,())).bind fun o=>match o with|.inl (_)=>some (-1)|.inr (D,_)=>some D
def Ik (s:kE) (f:oH):bz:=(O8 s f).bind fun D=>some (decide (0<=D))
def yM (word:ae) (o:bP):Option (Bool×bP):=(jD o).bind fun more=>bif !more.1 then some (false,more.2) else(ag more.2.1.2.1 more.2.2).bind fun D=>bif !decide (D=word) then some (false,more.2) else J (aa .i64 (more.2.2+1))<|some (true,(more.2.1,(more.2.2+1)))
def Dj (o:ae) (em:Bool) (l:kE) (Y:ae) (ah:Int) (an:Int) (ar:Int) (av:ae) (az:Int) (aE:Int) (a1:Bool) (a6:bP) (F:bF) (M:bF) (D:Bool) (N:p6) (Z:ae) (O:bF):xQ:=bif decide ((((bif em then 0 else l.length+1):Nat):Int)=60) then(cr 2 a6).bind fun(pv,_)=>some (.inr (pv,em,l,F,M,D,N,O,())) else(II a6).bind fun bb=>match bb with|.inl (take,b6,_)=>((IE b6).bind fun bp=>match bp with|.inl (U,a7,_)=>((Ik (bif em then[] else(l++[(Y,((ah,an,ar),av),az,aE,a1,F,M,(bif D then[] else(N++[(Z,O)])))])) (take,U,0,0,false,[],[],[])).bind fun a8=>bif a8 then(cr 3 a7).bind fun(b1,_)=>some (.inr (b1,em,l,F,M,D,N,O,())) else(ye a7).bind fun bx=>match bx with|.inl (b7,b8,_)=>((IJ b8).bind fun b0=>match b0 with|.inl (ca,cc,_)=>(yM FA cc).bind fun is=>J (l.length+2<=1000000000)<|some (.inl (o,false,(bif em then[] else(l++[(Y,((ah,an,ar),av),az,aE,a1,F,M,(bif D then[] else(N++[(Z,O)])))])),take,U.1.1,U.1.2.1,U.1.2.2,U.2,b7,ca,is.1,is.2,[],[],true,[],[],[],()))|.inr (b2,_)=>some (.inr (b2,em,l,F,M,D,N,O,())))|.inr (b3,_)=>some (.inr (b3,em,l,F,M,D,N,O,())))|.inr (b4,_)=>some (.inr (b4,em,l,F,M,D,N,O,())))|.inr (b5,_)=>some (.inr (b5,em,l,F,M,D,N,O,()))
def zf:Lp (ae×aA×Int×Int×BC) (BC⊕Bool×BC):=fun(M,N,O,D,Y,Z,ah,an,ar,_)=>bif decide (D<O) then(ag N D).bind fun U=>(EX U).bind fun sign=>(De M sign).bind fun F=>bif F.2 then(yT F.1).bind fun parse=>some (.inr (.inr (parse.2,U,parse.1.1.1,parse.1.1.2.1,parse.1.1.2.2,parse.1.2,()))) else J (aa .i64 (D+1))<|some (.inl (M,N,O,(D+1),Y,Z,ah,an,ar,())) else some (.inr (.inl (Y,Z,ah,an,ar,())))
def Lg (s:ae):Option ((Int×gC)×Bool):=bif decide (s=kr) then some ((8,(0,0,0),[]),true) else(ab zf (s,([1,3,5,2,4,6,7,0]:aA),(([1,3,5,2,4,6,7,0]:aA).length:Int),0,0,0,0,0,[],())).bind fun o=>match o with|.inl (U,Y,Z,ah,an,_)=>some ((0,(0,0,0),[]),false)|.inr (O,D,F,J,M,N,_)=>some ((D,(F,J,M),N),O)
def Ev:Lp (aD×Int×Int×sF×Unit) (sF×Unit⊕Unit):=fun(M,N,D,F,_)=>bif decide (D<N) then(ag M D).bind fun O=>(Lg O).bind fun comp=>bif !comp.2 then some (.inr (.inr (()))) else J (F.length+([comp.1]:sF).length<=1000000000)<|J (aa .i64 (D+1))<|some (.inl (M,N,(D+1),(F++([comp.1]:sF)),())) else some (.inr (.inl (F,())))
def LO (s:ae):Option (sF×Bool):=(strings_Split s TX).bind fun split=>bif decide (4<(split.length:Int)) then some ([],false) else(ab Ev (split,(split.length:Int),0,[],())).bind fun o=>match o with|.inl (D,_)=>some (D,true)|.inr (_)=>some ([],false)
def DU:Lp (aD×NG) (jY×Unit⊕Unit):=fun(M,N,D,F,_)=>bif decide (D<N) then(ag M D).bind fun O=>(LO O).bind fun alt=>bif !alt.2 then some (.inr (.inr (()))) else J (F.length+([alt.1]:jY).length<=1000000000)<|J (aa .i64 (D+1))<|some (.inl (M,N,(D+1),(F++([alt.1]:jY)),())) else some (.inr (.inl (F,())))
def Ew (s:ae):Option (jY×Bool):=(strings_Split s TB).bind fun split=>bif decide (80<(s.length:Int)) then some ([],false) else bif decide (4<(split.length:Int)) then some ([],false) else(ab DU (split,(split.length:Int),0,[],())).bind fun o=>match o with|.inl (D,_)=>some (D,true)|.inr (_)=>some ([],false)
def Pv (o:bP):Option (jY×uI⊕sH):=(fh o).bind fun F=>match F with|.inl (word,D,_)=>(Ew word).bind fun parse=>bif !parse.2 then(cr 1 D).bind fun(J,_)=>some (.inr (J,())) else some (.inl (parse.1,D,()))|.inr (M,_)=>some (.inr (M,()))
def qa:Lp (Int×adn) (adn⊕sH):=fun(M,Y,N,O,D,ah,an,ar,Z,_)=>bif decide (0<M) then(jD ((ah,an,ar),Z)).bind fun more=>bif more.1 then(CK more.2).bind fun az=>match az with|.inl (U,F,_)=>(p8 D U).bind fun av=>bif av then(cr 3 F).bind fun(pv,_)=>some (.inr (.inr (pv,()))) else bif decide ((D.length:Int)=M) then(cr 2 F).bind fun(aE,_)=>some (.inr (.inr (aE,()))) else J (D.length+([U]:aD).length<=1000000000)<|some (.inl (M,Y,N,O,(D++([U]:aD)),F.1.1,F.1.2.1,F.1.2.2,F.2,()))|.inr (a1,_)=>some (.inr (.inr (a1,()))) else some (.inr (.inl (Y,N,O,D,more.2.1.1,more.2.1.2.1,more.2.1.2.2,more.2.2,()))) else some (.inr (.inl (Y,N,O,D,ah,an,ar,Z,())))
def jF (F:Int) (o:bP):Option (pL×uI⊕sH):=(II o).bind fun N=>match N with|.inl (take,a1,_)=>((Pv a1).bind fun an=>match an with|.inl (a6,D,_)=>((ab qa (F,[],take,a6,[],D.1.1,D.1.2.1,D.1.2.2,D.2,())).bind fun O=>match O with|.inl (a7,J,M,aE,U,Y,Z,ah,_)=>some (.inl ((J,M,aE),((U,Y,Z),ah),()))|.inr (ar,_)=>some (.inr (ar,())))|.inr (av,_)=>some (.inr (av,())))|.inr (az,_)=>some (.inr (az,()))
def JS (o:ae) (em:Bool) (l:kE) (Z:ae) (ar:Int) (av:Int) (az:Int) (aE:ae) (a1:Int) (a6:Int) (a7:Bool) (U:bP) (D:bF) (M:bF) (F:Bool) (N:p6) (ah:ae) (O:bF):xQ:=only (!em)<|bif decide (0<(M.length:Int)) then(cr 1 U).bind fun(pv,_)=>some (.inr (pv,em,l,D,M,F,N,O,())) else only (!em)<|bif decide (0<(((bif F then 0 else N.length+1):Nat):Int)) then(cr 1 U).bind fun(a8,_)=>some (.inr (a8,em,l,D,M,F,N,O,())) else only (!em)<|bif decide ((D.length:Int)=4) then(cr 2 U).bind fun(bb,_)=>some (.inr (bb,em,l,D,M,F,N,O,())) else only (!em)<|(jF 0 U).bind fun an=>match an with|.inl (Y,bx,_)=>J (D.length+([Y]:bF).length<=1000000000)<|only (!em)<|some (.inl (o,em,l,Z,ar,av,az,aE,a1,a6,a7,bx,(D++([Y]:bF)),M,F,N,ah,O,()))|.inr (bp,_)=>some (.inr (bp,em,l,D,M,F,N,O,()))
def JH (o:ae) (em:Bool) (l:kE) (Y:ae) (ah:Int) (an:Int) (ar:Int) (av:ae) (az:Int) (aE:Int) (a1:Bool) (U:bP) (O:bF) (M:bF) (D:Bool) (F:p6) (Z:ae) (N:bF):xQ:=only (!em)<|bif decide (0<(((bif D then 0 else F.length+1):Nat):Int)) then only (!em)<|J (aa .i64 ((((bif D then 0 else F.length+1):Nat):Int) - 1))<|only (!D)<|J (0<=((((bif D then 0 else F.length+1):Nat):Int) - 1)/\((((bif D then 0 else F.length+1):Nat):Int) - 1)<=(F.length:Int))<|bif decide (((((bif D then 0 else F.length+1):Nat):Int) - 1)=(F.length:Int)) then only (!D)<|bif decide ((N.length:Int)=8) then(cr 2 U).bind fun(pv,_)=>some (.inr (pv,em,l,O,M,D,F,N,())) else only (!D)<|(jF 4 U).bind fun a8=>match a8 with|.inl (a6,b4,_)=>J (N.length+([a6]:bF).length<=1000000000)<|only (!D)<|some (.inl (o,em,l,Y,ah,an,ar,av,az,aE,a1,b4,O,M,D,F,Z,(N++([a6]:bF)),()))|.inr (bx,_)=>some (.inr (bx,em,l,O,M,D,F,N,())) else only (!D)<|(F[((((bif D then 0 else F.length+1):Nat):Int) - 1).toNat]?).bind fun y=>bif decide ((y.2.length:Int)=8) then(cr 2 U).bind fun(b0,_)=>some (.inr (b0,em,l,O,M,D,F,N,())) else only (!D)<|(F[((((bif D then 0 else F.length+1):Nat):Int) - 1).toNat]?).bind fun b8=>(jF 4 U).bind fun bb=>match bb with|.inl (b6,b7,_)=>none|.inr (b1,_)=>some (.inr (b1,em,l,O,M,D,F,N,())) else only (!em)<|bif decide ((M.length:Int)=8) then(cr 2 U).bind fun(b2,_)=>some (.inr (b2,em,l,O,M,D,F,N,())) else only (!em)<|(jF 4 U).bind fun bp=>match bp with|.inl (a7,b5,_)=>J (M.length+([a7]:bF).length<=1000000000)<|only (!em)<|some (.inl (o,em,l,Y,ah,an,ar,av,az,aE,a1,b5,O,(M++([a7]:bF)),D,F,Z,N,()))|.inr (b3,_)=>some (.inr (b3,em,l,O,M,D,F,N,()))
def C9:Lp (ae×p6×iP) jr:=fun(F,M,N,D,_)=>bif decide (D<N) then(ag M D).bind fun O=>bif decide (O.1=F) then some (.inr (.inr (D,()))) else J (aa .i64 (D+1))<|some (.inl (F,M,N,(D+1),())) else some (.inr (.inl (())))
def qb (x:oH) (s:ae):bH:=(ab C9 (s,x.2.2.2.2.2.2.2,(x.2.2.2.2.2.2.2.length:Int),0,())).bind fun o=>match o with|.inl (_)=>some (-1)|.inr (D,_)=>some D
def Ja (o:ae) (em:Bool) (l:kE) (U:ae) (Z:Int) (ah:Int) (an:Int) (ar:ae) (av:Int) (az:Int) (aE:Bool) (a1:bP) (M:bF) (N:bF) (F:Bool) (D:p6) (Y:ae) (O:bF):xQ:=only (!em)<|bif decide ((((bif F then 0 else D.length+1):Nat):Int)=4) then(cr 2 a1).bind fun(pv,_)=>some (.inr (pv,em,l,M,N,F,D,O,())) else(CK a1).bind fun a8=>match a8 with|.inl (take,a6,_)=>only (!em)<|(qb (U,((Z,ah,an),ar),av,az,aE,M,N,(bif F then[] else(D++[(Y,O)]))) take).bind fun a7=>bif decide (0<=a7) then(cr 3 a6).bind fun(bb,_)=>some (.inr (bb,em,l,M,N,F,D,O,())) else only (!em)<|J (D.length+2<=1000000000)<|only (!em)<|some (.inl (o,em,l,U,Z,ah,an,ar,av,az,aE,a6,M,N,false,(bif F then[] else(D++[(Y,O)])),take,[],()))|.inr (bp,_)=>some (.inr (bp,em,l,M,N,F,D,O,()))
def JI (o:ae) (em:Bool) (l:kE) (Y:ae) (ah:Int) (an:Int) (ar:Int) (av:ae) (az:Int) (aE:Int) (a1:Bool) (b5:bP) (M:bF) (N:bF) (F:Bool) (O:p6) (Z:ae) (U:bF):xQ:=let a6:bP->ae->xQ:=fun D word=>bif decide ((((bif em then 0 else l.length+1):Nat):Int)=0) then(cr 1 D).bind fun(b7,_)=>some (.inr (b7,em,l,M,N,F,O,U,())) else J (aa .i64 ((((bif em then 0 else l.length+1):Nat):Int) - 1))<|only (!em)<|J (0<=((((bif em then 0 else l.length+1):Nat):Int) - 1)/\((((bif em then 0 else l.length+1):Nat):Int) - 1)<=(l.length:Int))<|bif decide (((((bif em then 0 else l.length+1):Nat):Int) - 1)=(l.length:Int)) then bif decide (word=uj) then(JS o em l Y ah an ar av az aE a1 D M N F O Z U).bind fun b2=>match b2 with|.inl a8=>some (.inl a8)|.inr ca=>some (.inr ca) else bif decide (word=tW) then(JH o em l Y ah an ar av az aE a1 D M N F O Z U).bind fun b3=>match b3 with|.inl bp=>some (.inl bp)|.inr cc=>some (.inr cc) else bif decide (word=oX) then(Ja o em l Y ah an ar av az aE a1 D M N F O Z U).bind fun b4=>match b4 with|.inl bb=>some (.inl bb)|.inr cd=>some (.inr cd) else(cr 1 D).bind fun(ch,_)=>some (.inr (ch,em,l,M,N,F,O,U,())) else bif decide (word=uj) then none else bif decide (word=tW) then none else bif decide (word=oX) then none else(cr 1 D).bind fun(cj,_)=>some (.inr (cj,em,l,M,N,F,O,U,()));let a7:ae->bP->xQ:=fun word D=>bif !decide (o=[]) then bif decide (word=SZ) then(Dj o em l Y ah an ar av az aE a1 D M N F O Z U).bind fun b1=>match b1 with|.inl entry=>some (.inl entry)|.inr b6=>some (.inr b6) else a6 D word else a6 D word;(fh b5).bind fun bx=>match bx with|.inl (word,D,_)=>(bif decide (o=[]) then bif decide (word=SY) then(CK D).bind fun b0=>match b0 with|.inl (take,cp,_)=>some (.inl (take,em,l,Y,ah,an,ar,av,az,aE,a1,cp,M,N,F,O,Z,U,()))|.inr (pv,_)=>some (.inr (pv,em,l,M,N,F,O,U,())) else a7 word D else a7 word D)|.inr (b8,_)=>some (.inr (b8,em,l,M,N,F,O,U,()))
def kP:Lp (gi×Int×Int×VK) (VK⊕Value×UF):=fun(b4,b5,D,ar,F,av,az,aE,a1,a6,a7,a8,bb,bp,bx,b0,M,b1,b2,b3,_)=>bif decide (D<b5) then(ag b4 D).bind fun c5=>(JI ar F av az aE a1 a6 a7 a8 bb bp (c5,0) bx b0 M b1 b2 b3).bind fun c3=>match c3 with|.inl (line,N,an,ca,cc,cd,ch,cj,cp,cx,b6,b7,O,U,Y,Z,b8,ah)=>(jD b7).bind fun more=>bif more.1 then J (aa .i64 (more.2.2+1))<|(cr 1 (more.2.1,(more.2.2+1))).bind fun(pv,_)=>some (.inr (.inr (pv,N,an,O,U,Y,Z,ah))) else J (aa .i64 (D+1))<|some (.inl (b4,b5,(D+1),line,N,an,ca,cc,cd,ch,cj,cp,cx,b6,O,U,Y,Z,b8,ah))|.inr c4=>some (.inr (.inr c4)) else some (.inr (.inl (ar,F,av,az,aE,a1,a6,a7,a8,bb,bp,bx,b0,M,b1,b2,b3,())))
def Px (l:gi) (o:ae) (em:Bool) (J:kE) (Y:ae) (Z:Int) (ah:Int) (an:Int) (az:ae) (aE:Int) (a1:Int) (a6:Bool) (M:bF) (N:bF) (D:Bool) (O:p6) (a7:ae) (U:bF):Option (jy×VK⊕jy×UF):=(ab kP (l,(l.length:Int),0,o,em,J,Y,Z,ah,an,az,aE,a1,a6,M,N,D,O,a7,U,())).bind fun ar=>match ar with|.inl av=>some (.inl ((0,0,0),av))|.inr (a8,F)=>(rZ a8).bind fun q=>some (.inr (q,F))
def rM (text:ae):Option ((ae×kE)×jy):=(zD text).bind fun read=>bif !((decide (read.2.1=0)&&(decide (read.2.2.1=0)&&decide (read.2.2.2=0)))) then some (([],[]),read.2) else(Px read.1 [] true [] [] 0 0 0 [] 0 0 false [] [] true [] [] []).bind fun o=>match o with|.inl (each,F,an,ar,av,az,aE,a1,a6,a7,J,M,N,O,U,Y,Z,ah,_)=>bif !((decide (each.1=0)&&(decide (each.2.1=0)&&decide (each.2.2=0)))) then some (([],[]),each) else bif decide (F=[]) then some (([],[]),(1,0,0)) else some ((F,(bif an then[] else(ar++[(av,((az,aE,a1),a6),a7,J,M,N,O,(bif U then[] else(Y++[(Z,ah)])))]))),(0,0,0))|.inr (D,a8,bb,bp,bx,b0,b1,b2,_)=>bif !((decide (D.1=0)&&(decide (D.2.1=0)&&decide (D.2.2=0)))) then some (([],[]),D) else none
def Jq:Lp (Bool×Int×ae×ae×aD×adw) (Bool×adw):=fun(bx,F,x1,bp,N,O,U,Y,Z,ah,an,ar,av,az,aE,a1,a6,a7,a8,bb,M,_)=>bif decide (F<(N.length:Int)) then(ag N F).bind fun b0=>(rM b0).bind fun D=>bif bx then J (M.length+([D.1]:rF).length<=1000000000)<|J (aa .i64 (F+1))<|some (.inl ((decide (D.2.1=0)&&(decide (D.2.2.1=0)&&decide (D.2.2.2=0))),(F+1),x1,bp,N,O,U,Y,Z,ah,an,ar,av,az,aE,a1,a6,a7,a8,bb,(M++([D.1]:rF)),())) else J (M.length+([D.1]:rF).length<=1000000000)<|J (aa .i64 (F+1))<|some (.inl (false,(F+1),x1,bp,N,O,U,Y,Z,ah,an,ar,av,az,aE,a1,a6,a7,a8,bb,(M++([D.1]:rF)),())) else some (.inr (bx,O,U,Y,Z,ah,an,ar,av,az,aE,a1,a6,a7,a8,bb,M,()))
def Dt (x:xm):Option ((gU×Int×rF×lH×ae×oJ)×Bool):=(FC x.1 x.2.1 x.2.2).bind fun read=>bif !read.2 then some ((([],[],[],[],[]),0,[],([],[],[],[],[]),[],[]),false) else(vO x.1).bind fun parse=>bif !((decide (parse.2.1=0)&&(decide (parse.2.2.1=0)&&decide (parse.2.2.2=0)))) then some ((([],[],[],[],[]),0,[],([],[],[],[],[]),[],[]),false) else(I3 parse.1 x.2.1).bind fun D=>(ab Jq (D.2,0,x.1,x.2.1,x.2.2,0,[],parse.1.1,parse.1.2.1,parse.1.2.2.1,parse.1.2.2.2.1,parse.1.2.2.2.2,D.1,read.1.1.1,read.1.1.2.1,read.1.1.2.2.1,read.1.1.2.2.2.1,read.1.1.2.2.2.2,read.1.2.1,read.1.2.2,[],())).bind fun(J,a6,a7,M,N,O,U,Y,Z,ah,an,ar,av,az,aE,a1,F,_)=>some (((M,N,O,U,Y),Z,F,(ah,an,ar,av,az),aE,a1),J)
def j7:Lp (gi×Int×Int×Int×Int×aK×Unit) (gi×Int×Int×Int×aK×Unit⊕jA):=fun(M,D,N,O,U,F,_)=>let bb:ae×cW->Option (gi×Int×Int×Int×Int×aK×Unit⊕gi×Int×Int×Int×aK×Unit⊕jA):=fun word=>bif decide (0<D) then bif !decide (word.1=TA) then(fi 1 word.2).bind fun a8=>bif decide (0<D) then(fA (F.length:Int) 8 a8).bind fun b5=>(fy 4 b5).bind fun a1=>J (F.length+([a1.1]:aK).length<=1000000000)<|(gE a1.2).bind fun bx=>(dF bx).bind fun Z=>bif !Z.1 then some (.inr (.inr (Z.2.2.2.1,Z.2.2.2.2.1,Z.2.2.2.2.2,()))) else J (aa .i64 (D+1))<|some (.inl (M,(D+1),N,O,U,(F++([a1.1]:aK)),())) else(gE a8).bind fun b0=>(dF b0).bind fun ah=>bif !ah.1 then some (.inr (.inr (ah.2.2.2.1,ah.2.2.2.2.1,ah.2.2.2.2.2,()))) else J (aa .i64 (D+1))<|some (.inl (M,(D+1),N,O,U,F,())) else bif decide (0<D) then(fA (F.length:Int) 8 word.2).bind fun b6=>(fy 4 b6).bind fun a6=>J (F.length+([a6.1]:aK).length<=1000000000)<|(gE a6.2).bind fun b1=>(dF b1).bind fun an=>bif !an.1 then some (.inr (.inr (an.2.2.2.1,an.2.2.2.2.1,an.2.2.2.2.2,()))) else J (aa .i64 (D+1))<|some (.inl (M,(D+1),N,O,U,(F++([a6.1]:aK)),())) else(gE word.2).bind fun b2=>(dF b2).bind fun ar=>bif !ar.1 then some (.inr (.inr (ar.2.2.2.1,ar.2.2.2.2.1,ar.2.2.2.2.2,()))) else J (aa .i64 (D+1))<|some (.inl (M,(D+1),N,O,U,F,())) else bif decide (0<D) then(fA (F.length:Int) 8 word.2).bind fun b7=>(fy 4 b7).bind fun a7=>J (F.length+([a7.1]:aK).length<=1000000000)<|(gE a7.2).bind fun b3=>(dF b3).bind fun av=>bif !av.1 then some (.inr (.inr (av.2.2.2.1,av.2.2.2.2.1,av.2.2.2.2.2,()))) else J (aa .i64 (D+1))<|some (.inl (M,(D+1),N,O,U,(F++([a7.1]:aK)),())) else(gE word.2).bind fun b4=>(dF b4).bind fun az=>bif !az.1 then some (.inr (.inr (az.2.2.2.1,az.2.2.2.2.1,az.2.2.2.2.2,()))) else J (aa .i64 (D+1))<|some (.inl (M,(D+1),N,O,U,F,()));bif decide (D<(M.length:Int)) then(ag M D).bind fun b8=>(jg (b8,0,0,0,0)).bind fun word=>bif decide (D=0) then bif !decide (word.1=QL) then(fi 1 word.2).bind fun fail=>bif decide (0<D) then(fA (F.length:Int) 8 fail).bind fun full=>(fy 4 full).bind fun aE=>J (F.length+([aE.1]:aK).length<=1000000000)<|(gE aE.2).bind fun end_=>(dF end_).bind fun aJ=>bif !aJ.1 then some (.inr (.inr (aJ.2.2.2.1,aJ.2.2.2.2.1,aJ.2.2.2.2.2,()))) else J (aa .i64 (D+1))<|some (.inl (M,(D+1),N,O,U,(F++([aE.1]:aK)),())) else(gE fail).bind fun bp=>(dF bp).bind fun Y=>bif !Y.1 then some (.inr (.inr (Y.2.2.2.1,Y.2.2.2.2.1,Y.2.2.2.2.2,()))) else J (aa .i64 (D+1))<|some (.inl (M,(D+1),N,O,U,F,())) else bb word else bb word else some (.inr (.inl (M,N,O,U,F,())))
def zR (x:ae):Option (aK×jy):=(Af x).bind fun read=>bif !decide (read.2.1=0) then some ([],read.2) else(ab j7 (read.1,0,0,0,0,[],())).bind fun o=>match o with|.inl (N,Y,O,U,D,_)=>bif decide ((N.length:Int)=0) then some ([],(1,0,0)) else some (D,(0,0,0))|.inr (F,J,M,_)=>some ([],(F,J,M))
def Jp (o:bP) (D:Bool) (l:bF):Option (bP×sD⊕Value×sD):=let M:bP->ae->Option (bP×sD⊕Value×sD):=fun F word=>bif !D then(cr 1 F).bind fun(Y,_)=>some (.inr (Y,D,l,())) else bif !decide (word=TA) then(cr 1 F).bind fun(Z,_)=>some (.inr (Z,D,l,())) else bif decide ((l.length:Int)=8) then(cr 2 F).bind fun(ah,_)=>some (.inr (ah,D,l,())) else(jF 4 F).bind fun U=>match U with|.inl (N,av,_)=>J (l.length+([N]:bF).length<=1000000000)<|some (.inl (av,D,(l++([N]:bF)),()))|.inr (an,_)=>some (.inr (an,D,l,()));(fh o).bind fun O=>match O with|.inl (word,F,_)=>bif !D then bif decide (word=QL) then some (.inl (F,true,l,())) else M F word else M F word|.inr (ar,_)=>some (.inr (ar,D,l,()))
def j4:Lp (gi×Int×Int×sD) (sD⊕Value×sD):=fun(U,Y,D,F,M,_)=>bif decide (D<Y) then(ag U D).bind fun av=>(Jp (av,0) F M).bind fun Z=>match Z with|.inl (parse,N,O,_)=>(jD parse).bind fun more=>bif more.1 then J (aa .i64 (more.2.2+1))<|(cr 1 (more.2.1,(more.2.2+1))).bind fun(pv,_)=>some (.inr (.inr (pv,N,O,()))) else J (aa .i64 (D+1))<|some (.inl (U,Y,(D+1),N,O,()))|.inr (ar,ah,an,_)=>some (.inr (.inr (ar,ah,an,()))) else some (.inr (.inl (F,M,())))
def Pq (l:gi) (o:Bool) (D:bF):Option (jy×sD⊕jy×sD):=(ab j4 (l,(l.length:Int),0,o,D,())).bind fun N=>match N with|.inl (O,F,_)=>some (.inl ((0,0,0),O,F,()))|.inr (U,J,M,_)=>(rZ U).bind fun q=>some (.inr (q,J,M,()))
def yS (text:ae):Option (bF×jy):=(zD text).bind fun read=>bif !((decide (read.2.1=0)&&(decide (read.2.2.1=0)&&decide (read.2.2.2=0)))) then some ([],read.2) else(Pq read.1 false []).bind fun o=>match o with|.inl (each,J,F,_)=>bif (decide (each.1=0)&&(decide (each.2.1=0)&&decide (each.2.2=0))) then bif !J then bif !((decide (1=0)&&(decide (0=0)&&decide (0=0)))) then some ([],(1,0,0)) else some (F,(0,0,0)) else bif !((decide (each.1=0)&&(decide (each.2.1=0)&&decide (each.2.2=0)))) then some ([],each) else some (F,(0,0,0)) else bif !((decide (each.1=0)&&(decide (each.2.1=0)&&decide (each.2.2=0)))) then some ([],each) else some (F,(0,0,0))|.inr (D,M,N,_)=>bif (decide (D.1=0)&&(decide (D.2.1=0)&&decide (D.2.2=0))) then bif !M then bif !((decide (1=0)&&(decide (0=0)&&decide (0=0)))) then some ([],(1,0,0)) else none else bif !((decide (D.1=0)&&(decide (D.2.1=0)&&decide (D.2.2=0)))) then some ([],D) else none else bif !((decide (D.1=0)&&(decide (D.2.1=0)&&decide (D.2.2=0)))) then some ([],D) else none
def Di (l:Int) (top:Int):bz:=some (decide ((bits .andNot .u32 l top)=0))
def KK (D:ae):bH:=(zZ D).bind fun M=>bif !M then some (-1) else(yB D kr).bind fun F=>bif !F.2 then J (aa .i64 (2*(D.length:Int)))<|J (aa .i64 ((2*(D.length:Int))+1))<|some ((2*(D.length:Int))+1) else J (aa .i64 (2*(F.1.length:Int)))<|some (2*(F.1.length:Int))
def PN (s:ae) (F:ae):bz:=(CL s F).bind fun D=>some D
def K6 (D:ae) (s:ae):bz:=(zZ D).bind fun J=>bif !J then some false else(tB s).bind fun check=>bif !check then some false else(yB D kr).bind fun F=>bif !F.2 then some (decide (D=s)) else(PN s F.1).bind fun M=>some M
def qf:Lp (ae×Int×Int×aD×iP) eD:=fun(F,O,U,M,N,D,_)=>bif decide (D<N) then(ag M D).bind fun Y=>(KK Y).bind fun weight=>bif decide (U<weight) then(K6 Y F).bind fun Z=>bif Z then J (aa .i64 (D+1))<|some (.inl (F,D,weight,M,N,(D+1),())) else J (aa .i64 (D+1))<|some (.inl (F,O,U,M,N,(D+1),())) else J (aa .i64 (D+1))<|some (.inl (F,O,U,M,N,(D+1),())) else some (.inr (O,()))
def D2 (s:ae) (D:aD):bH:=(ab qf (s,(-1),(-1),D,(D.length:Int),0,())).bind fun(F,_)=>some F
def DK:Lp (ae×fM×Int×Int×jS) (ae×jS):=fun(M,U,N,D,F,_)=>bif decide (D<N) then(ag U D).bind fun O=>J (F.length+([O.1]:aD).length<=1000000000)<|J (aa .i64 (D+1))<|some (.inl (M,U,N,(D+1),(F++([O.1]:aD)),())) else some (.inr (M,F,()))
def D8 (p:gU) (s:ae):bH:=(ab DK (s,p.2.1,(p.2.1.length:Int),0,[],())).bind fun(J,F,_)=>(D2 J F).bind fun D=>some D
def Eu:Lp (fx×Int×Int×ae×Int×aD×jS) jS:=fun(O,U,D,Z,M,N,F,_)=>bif decide (D<U) then(ag O D).bind fun Y=>(p8 N Y.1).bind fun ah=>bif (ah==(decide (M=0))) then J (F.length+([Y.1]:aD).length<=1000000000)<|J (aa .i64 (D+1))<|some (.inl (O,U,(D+1),Z,M,N,(F++([Y.1]:aD)),())) else J (aa .i64 (D+1))<|some (.inl (O,U,(D+1),Z,M,N,F,())) else some (.inr (F,()))
def LM (p:gU) (c:NB):xk:=bif decide (c.2.1=2) then(Fq c.2.2).bind fun clone=>some clone else(ab Eu (p.1,(p.1.length:Int),0,c.1,c.2.1,c.2.2,[],())).bind fun(D,_)=>some D
def Dv:Lp (fx×Int×Int×jS) jS:=fun(M,N,D,F,_)=>bif decide (D<N) then(ag M D).bind fun O=>bif O.2.2 then J (F.length+([O.1]:aD).length<=1000000000)<|J (aa .i64 (D+1))<|some (.inl (M,N,(D+1),(F++([O.1]:aD)),())) else J (aa .i64 (D+1))<|some (.inl (M,N,(D+1),F,())) else some (.inr (F,()))
def yU (p:gU) (s:ae):xk:=(tB s).bind fun check=>bif !check then some [] else(D8 p s).bind fun D=>bif decide (0<=D) then(ag p.2.1 D).bind fun M=>(LM p M).bind fun F=>some F else(ab Dv (p.1,(p.1.length:Int),0,[],())).bind fun(J,_)=>some J
def DT (p:gU) (s:ae) (source:ae):bz:=(yU p s).bind fun F=>(p8 F source).bind fun D=>some D
def PR (p:gU) (s:ae):Option (gC×Bool):=(yg p.2.2.1 s).bind fun place=>bif decide (place<0) then some (((0,0,0),[]),false) else(ag p.2.2.1 place).bind fun D=>some (D.2,true)
def yx (p:gU) (s:ae) (d:Int):bz:=(yf p.2.2.2.1 s).bind fun place=>bif decide (place<0) then some true else(ag p.2.2.2.1 place).bind fun F=>(yl F.2 d).bind fun D=>some D
def Ft (p:gU) (x:oH):bH:=(PR p x.1).bind fun fV=>bif fV.2 then bif !((decide (fV.1.1.1=x.2.1.1.1)&&(decide (fV.1.1.2.1=x.2.1.1.2.1)&&(decide (fV.1.1.2.2=x.2.1.1.2.2)&&decide (fV.1.2=x.2.1.2))))) then some 1 else(yx p x.1 x.2.2.1).bind fun hash=>bif !hash then some 2 else bif x.2.2.2.2.1 then bif !fV.2 then some 3 else some 0 else some 0 else(yx p x.1 x.2.2.1).bind fun D=>bif !D then some 2 else bif x.2.2.2.2.1 then bif !fV.2 then some 3 else some 0 else some 0
def J5 (p:gU) (a:ae) (b:ae):bH:=let J:Int->Int->bH:=fun source D=>bif decide (source<0) then some 1 else bif decide (D<0) then some (-1) else(ag p.1 D).bind fun O=>(ag p.1 source).bind fun U=>(DL O.2.1 U.2.1).bind fun F=>bif !decide (F=0) then some F else(rI a b).bind fun N=>some N;(ti p a).bind fun source=>(ti p b).bind fun D=>bif decide (source<0) then bif decide (D<0) then(rI a b).bind fun M=>some M else J source D else J source D
def qh (a:NC) (b:NC) (M:gU):bH:=(rI a.1.1.1 b.1.1.1).bind fun D=>bif !decide (D=0) then some D else(tu b.1.1.2.1 a.1.1.2.1).bind fun F=>bif !decide (F=0) then some F else(J5 M a.1.2 b.1.2).bind fun J=>some J
def afo (a:Int) (b:Int) (cmp:gU) (l:jf):uK:=vx qh a b cmp l
def afB (a:Int) (b:Int) (n:Int) (cmp:gU) (l:jf):uK:=vB a b n cmp l
def afJ (a:Int) (m:Int) (b:Int) (cmp:gU) (l:jf):uK:=vK a m b cmp l
def afy (rc:adl):adl:=tk qh rc
def afI (n:Int) (cmp:gU) (l:jf):uK:=DB qh n cmp l
def CI (cmp:gU) (l:jf):uK:=yH qh cmp l
def D7 (p:gU) (s:ae):bz:=(D8 p s).bind fun D=>bif decide (0<=D) then(ag p.2.1 D).bind fun F=>some (decide (F.2.1=2)) else some false
def JT (y:NC) (M:jf) (O:Int) (D:aD) (F:Int):bz:=(ag M O).bind fun N=>bif decide (y.1.1.1=N.1.1.1) then bif decide (y.2=0) then(nJ D y.1.2).bind fun index=>some (decide (index<F)) else bif decide (y.2=4) then(nJ D y.1.2).bind fun J=>some (decide (J<F)) else some false else some false
def yb:Lp (jf×jf×Int×aD×jA) jr:=fun(U,F,M,N,O,Y,D,_)=>bif decide (D<Y) then(ag U D).bind fun ah=>(JT ah F M N O).bind fun Z=>bif Z then some (.inr (.inr (D,()))) else J (aa .i64 (D+1))<|some (.inl (U,F,M,N,O,Y,(D+1),())) else some (.inr (.inl (())))
def Ph (s:jf) (f:jf) (D:Int) (F:aD) (J:Int):bH:=(ab yb (s,f,D,F,J,(s.length:Int),0,())).bind fun o=>match o with|.inl (_)=>some (-1)|.inr (M,_)=>some M
def Iu (s:jf) (f:jf) (D:Int) (F:aD) (J:Int):bz:=(Ph s f D F J).bind fun M=>some (decide (0<=M))
def oS:Lp UH NJ:=fun(Z,D,M,N,O,U,Y,F,_)=>bif decide (D<Z) then J (0<=D/\D<F.length)<|(F[D.toNat]?).bind fun y=>bif !decide (y.2=0) then J (aa .i64 (D+1))<|some (.inl (Z,(D+1),M,N,O,U,Y,F,())) else J (0<=D/\D<F.length)<|(F[D.toNat]?).bind fun ar=>(D7 (M,N,O,U,Y) ar.1.1.1).bind fun first=>bif !first then J (aa .i64 (D+1))<|some (.inl (Z,(D+1),M,N,O,U,Y,F,())) else J (0<=D/\D<F.length)<|(F[D.toNat]?).bind fun av=>(yU (M,N,O,U,Y) av.1.1.1).bind fun ah=>J (0<=D/\D<F.length)<|(F[D.toNat]?).bind fun az=>(nJ ah az.1.2).bind fun index=>(Iu F F D ah index).bind fun an=>bif an then J (0<=D/\D<F.length)<|(F[D.toNat]?).bind fun q=>J (aa .i64 (D+1))<|some (.inl (Z,(D+1),M,N,O,U,Y,(F.set D.toNat (q.1,4)),())) else J (aa .i64 (D+1))<|some (.inl (Z,(D+1),M,N,O,U,Y,F,())) else some (.inr (F,()))
def Er (p:gU) (l:jf):uK:=(ab oS ((l.length:Int),0,p.1,p.2.1,p.2.2.1,p.2.2.2.1,p.2.2.2.2,l,())).bind fun(D,_)=>some D
def zr:Lp (Int×rF×Int×Int×kE×Int×Int×fx×fM×fX×fY×iC×ae×kE×NJ) (Int×rF×UH):=fun(Y,an,ar,av,az,aE,D,F,M,N,O,U,x,a1,Z,_)=>bif decide (D<aE) then(ag az D).bind fun ah=>(Di ah.2.2.2.1 Y).bind fun under=>bif under then(DT (F,M,N,O,U) ah.1 x).bind fun a7=>bif a7 then(Ft (F,M,N,O,U) ah).bind fun a6=>J (Z.length+([((ah,x),a6)]:jf).length<=1000000000)<|J (aa .i64 (D+1))<|some (.inl (Y,an,ar,av,az,aE,(D+1),F,M,N,O,U,x,a1,(Z++([((ah,x),a6)]:jf)),())) else J (aa .i64 (D+1))<|some (.inl (Y,an,ar,av,az,aE,(D+1),F,M,N,O,U,x,a1,Z,())) else J (aa .i64 (D+1))<|some (.inl (Y,an,ar,av,az,aE,(D+1),F,M,N,O,U,x,a1,Z,())) else some (.inr (Y,an,ar,av,F,M,N,O,U,Z,()))
def zq:Lp (Int×rF×UH) adu:=fun(av,ah,an,F,N,O,U,Y,M,Z,_)=>bif decide (F<an) then(ag ah F).bind fun D=>(ab zr (av,ah,an,F,D.2,(D.2.length:Int),0,N,O,U,Y,M,D.1,D.2,Z,())).bind fun(az,bp,bx,ar,aE,a1,a6,a7,a8,bb,_)=>J (aa .i64 (ar+1))<|some (.inl (az,bp,bx,(ar+1),aE,a1,a6,a7,a8,bb,())) else some (.inr (N,O,U,Y,M,Z,()))
def LJ (p:gU) (ah:Int) (cat:rF):uK:=(ab zq (ah,cat,(cat.length:Int),0,p.1,p.2.1,p.2.2.1,p.2.2.2.1,p.2.2.2.2,[],())).bind fun(M,N,O,U,Y,Z,_)=>(CI (M,N,O,U,Y) Z).bind fun D=>J (Z.length=D.length)<|(Er (M,N,O,U,Y) D).bind fun F=>J (D.length=F.length)<|some F
def KU:Lp (jf×Int×Int×eE×Unit) (eE×Unit):=fun(N,O,D,F,_)=>bif decide (D<O) then(ag N D).bind fun M=>bif decide (M.2=0) then J (F.length+([M.1]:eE).length<=1000000000)<|J (aa .i64 (D+1))<|some (.inl (N,O,(D+1),(F++([M.1]:eE)),())) else J (aa .i64 (D+1))<|some (.inl (N,O,(D+1),F,())) else some (.inr (F,()))
def LK (l:jf):Option eE:=(ab KU (l,(l.length:Int),0,[],())).bind fun(D,_)=>some D
def DX:Lp uH eD:=fun(F,D,i,_)=>bif decide (0<=i) then J (aa .u32 (D*2))<|(ag F i).bind fun M=>J (aa .u32 ((D*2)+(IntKind.wrap .u32 M)))<|J (aa .i64 (i - 1))<|some (.inl (F,((D*2)+(IntKind.wrap .u32 M)),(i - 1),())) else some (.inr (D,()))
def EE (l:aA):bH:=J (aa .i64 ((l.length:Int) - 1))<|(ab DX (l,0,((l.length:Int) - 1),())).bind fun(D,_)=>some D
def Ed:Lp jA jq:=fun(D,F,i,_)=>bif decide (i<32) then J (0<=i)<|J ((2:Int)≠0)<|bif decide (((D.fdiv (2 ^(min i.toNat (IntKind.bits .u32)))).tmod 2)=1) then J (0<=i)<|J ((2:Int)≠0)<|bif decide (((F.fdiv (2 ^(min i.toNat (IntKind.bits .u32)))).tmod 2)=0) then some (.inr (.inr (()))) else J (aa .i64 (i+1))<|some (.inl (D,F,(i+1),())) else J (aa .i64 (i+1))<|some (.inl (D,F,(i+1),())) else some (.inr (.inl (())))
def Lr (a:Int) (b:Int):bz:=(ab Ed (a,b,0,())).bind fun o=>match o with|.inl (_)=>some true|.inr (_)=>some false
def Lm (labels:ae) (D:ae):bz:=(zw labels).bind fun F=>(zw D).bind fun J=>(EE F.1).bind fun number=>(EE J.1).bind fun M=>(Lr number M).bind fun under=>some under
def CU:ade:=fun(i,N,D,O,U,Y,F,_)=>bif decide (i<(D.length:Int)) then(ag D i).bind fun M=>J (F.length+([M.1]:aD).length<=1000000000)<|J (aa .i64 (i+1))<|some (.inl ((i+1),N,D,O,U,Y,(F++([M.1]:aD)),())) else some (.inr (F,()))
def PJ (p:lH):xk:=(ab CU (0,p.1,p.2.1,p.2.2.1,p.2.2.2.1,p.2.2.2.2,[],())).bind fun(D,_)=>some D
def Ls (g:ae) (s:ae):bz:=(Ad g).bind fun D=>bif !D then some false else(vZ s).bind fun check=>bif !check then some false else(Ac g).bind fun star=>bif !star then some (decide (g=s)) else J (aa .i64 ((g.length:Int) - 1))<|bif decide (((g.length:Int) - 1)<=(s.length:Int)) then J (0<=(0:Int)/\(0:Int)<=((g.length:Int) - 1)/\((g.length:Int) - 1)<=s.length)<|J (0<=(0:Int)/\(0:Int)<=((g.length:Int) - 1)/\((g.length:Int) - 1)<=g.length)<|some (decide (((s.take ((g.length:Int) - 1).toNat).drop (0:Int).toNat)=((g.take ((g.length:Int) - 1).toNat).drop (0:Int).toNat))) else some false
def EF (g:ae):bH:=(Ad g).bind fun D=>bif !D then some (-1) else(Ac g).bind fun star=>bif star then J (aa .i64 ((g.length:Int) - 1))<|J (aa .i64 (2*((g.length:Int) - 1)))<|some (2*((g.length:Int) - 1)) else J (aa .i64 (2*(g.length:Int)))<|J (aa .i64 ((2*(g.length:Int))+1))<|some ((2*(g.length:Int))+1)
def nO:Lp (ae×aD×iP) eD:=fun(M,D,F,i,_)=>bif decide (i<(D.length:Int)) then(ag D i).bind fun U=>(Ls U M).bind fun N=>bif N then bif decide (F<0) then J (aa .i64 (i+1))<|some (.inl (M,D,i,(i+1),())) else(ag D i).bind fun Y=>(EF Y).bind fun weight=>(ag D F).bind fun Z=>(EF Z).bind fun O=>bif decide (O<weight) then J (aa .i64 (i+1))<|some (.inl (M,D,i,(i+1),())) else J (aa .i64 (i+1))<|some (.inl (M,D,F,(i+1),())) else J (aa .i64 (i+1))<|some (.inl (M,D,F,(i+1),())) else some (.inr (F,()))
def Ee (s:ae) (l:aD):bH:=(ab nO (s,l,(-1),0,())).bind fun(D,_)=>some D
def E9 (p:lH) (s:ae):bH:=(PJ p).bind fun D=>(Ee s D).bind fun F=>some F
def FD:Lp (Int×je×aK×aS×fW×aS×ae×ae×aD×jS) jS:=fun(i,N,Z,ah,an,ar,Y,M,O,F,_)=>let av:Bool->ae×iw->Option (Int×je×aK×aS×fW×aS×ae×ae×aD×jS⊕jS):=fun U D=>bif decide (M=pe) then bif !U then J (F.length+([D.1]:aD).length<=1000000000)<|J (aa .i64 (i+1))<|some (.inl ((i+1),N,Z,ah,an,ar,Y,M,O,(F++([D.1]:aD)),())) else J (aa .i64 (i+1))<|some (.inl ((i+1),N,Z,ah,an,ar,Y,M,O,F,())) else J (aa .i64 (i+1))<|some (.inl ((i+1),N,Z,ah,an,ar,Y,M,O,F,()));bif decide (i<(N.length:Int)) then(ag N i).bind fun D=>(mM O D.1).bind fun U=>bif decide (M=iF) then bif U then J (F.length+([D.1]:aD).length<=1000000000)<|J (aa .i64 (i+1))<|some (.inl ((i+1),N,Z,ah,an,ar,Y,M,O,(F++([D.1]:aD)),())) else av U D else av U D else some (.inr (F,()))
def MD (p:lH) (c:xm):xk:=bif decide (c.2.1=hW) then J (c.2.2.length<=1000000000)<|some c.2.2 else(ab FD (0,p.1,p.2.1,p.2.2.1,p.2.2.2.1,p.2.2.2.2,c.1,c.2.1,c.2.2,[],())).bind fun(D,_)=>some D
def DM:ade:=fun(i,D,M,N,O,U,F,_)=>bif decide (i<(D.length:Int)) then(ag D i).bind fun Z=>bif decide (Z.2.2=jJ) then(ag D i).bind fun Y=>J (F.length+([Y.1]:aD).length<=1000000000)<|J (aa .i64 (i+1))<|some (.inl ((i+1),D,M,N,O,U,(F++([Y.1]:aD)),())) else J (aa .i64 (i+1))<|some (.inl ((i+1),D,M,N,O,U,F,())) else some (.inr (F,()))
def Eb (p:lH) (s:ae):xk:=(vZ s).bind fun check=>bif !check then some [] else(E9 p s).bind fun D=>bif decide (0<=D) then(ag p.2.1 D).bind fun M=>(MD p M).bind fun F=>some F else(ab DM (0,p.1,p.2.1,p.2.2.1,p.2.2.2.1,p.2.2.2.2,[],())).bind fun(J,_)=>some J
def E':Lp (fW×ae×lu) (Unit⊕Bool×Unit):=fun(D,M,F,i,_)=>bif decide (i<(D.length:Int)) then(ag D i).bind fun O=>bif decide (O.1=M) then(ag D i).bind fun U=>(mM U.2 F).bind fun N=>some (.inr (.inr (N,()))) else J (aa .i64 (i+1))<|some (.inl (D,M,F,(i+1),())) else some (.inr (.inl (())))
def Av (l:fW) (s:ae) (D:ae):bz:=(ab E' (l,s,D,0,())).bind fun o=>match o with|.inl (_)=>some true|.inr (F,_)=>some F
def FU (p:lH) (x:xR):bH:=(wb p.2.2.1 x.1).bind fun pair=>bif pair.2 then bif !decide (pair.1=x.2.1) then some 1 else(Av p.2.2.2.1 x.1 x.2.2.1).bind fun has=>bif !has then some 2 else bif x.2.2.2.2.1 then bif !pair.2 then some 3 else some 0 else some 0 else(Av p.2.2.2.1 x.1 x.2.2.1).bind fun D=>bif !D then some 2 else bif x.2.2.2.2.1 then bif !pair.2 then some 3 else some 0 else some 0
def rS (a:Int) (b:Int):bH:=bif decide (a<b) then some (-1) else bif decide (b<a) then some 1 else some 0
def KE:Lp (ae×lu) (ae×p5⊕eD):=fun(D,F,i,_)=>bif decide (i<(D.length:Int)) then bif decide (i<(F.length:Int)) then(ag D i).bind fun M=>(ag F i).bind fun N=>bif !decide ((M.toNat:Int)=(N.toNat:Int)) then(ag D i).bind fun O=>(ag F i).bind fun U=>(rS (IntKind.wrap .i64 (O.toNat:Int)) (IntKind.wrap .i64 (U.toNat:Int))).bind fun ints=>some (.inr (.inr (ints,()))) else J (aa .i64 (i+1))<|some (.inl (D,F,(i+1),())) else some (.inr (.inl (D,F,()))) else some (.inr (.inl (D,F,())))
def qo (a:ae) (b:ae):bH:=(ab KE (a,b,0,())).bind fun o=>match o with|.inl (D,F,_)=>(rS (D.length:Int) (F.length:Int)).bind fun J=>some J|.inr (M,_)=>some M
def Lv (a:ae) (b:ae):bH:=(zz a).bind fun digits=>(zz b).bind fun D=>bif digits then bif D then(zA a).bind fun number=>(zA b).bind fun J=>(rS number.1 J.1).bind fun ints=>some ints else bif digits then some (-1) else bif D then some 1 else(qo a b).bind fun bytes=>some bytes else bif digits then some (-1) else bif D then some 1 else(qo a b).bind fun F=>some F
def Kb:Lp (aA×aA×Int×NN) (NN⊕eD):=fun(F,M,D,N)=>bif decide (D<3) then(ag F D).bind fun O=>(ag M D).bind fun U=>bif !decide (O=U) then(ag F D).bind fun Y=>(ag M D).bind fun Z=>(rS Y Z).bind fun ints=>some (.inr (.inr (ints,()))) else J (aa .i64 (D+1))<|some (.inl (F,M,(D+1),N)) else some (.inr (.inl (N)))
def DN:Lp (Int×NN) (NN⊕eD):=fun(D,N,O,U,F,Y,Z,ah,M,_)=>bif decide (D<(F.length:Int)) then bif decide (D<(M.length:Int)) then(ag F D).bind fun an=>(ag M D).bind fun ar=>(Lv an ar).bind fun parts=>bif !decide (parts=0) then some (.inr (.inr (parts,()))) else J (aa .i64 (D+1))<|some (.inl ((D+1),N,O,U,F,Y,Z,ah,M,())) else some (.inr (.inl (N,O,U,F,Y,Z,ah,M,()))) else some (.inr (.inl (N,O,U,F,Y,Z,ah,M,())))
def tA (x:pN) (M:pN):bH:=let O:aD->aD->bH:=fun F D=>(rS (F.length:Int) (D.length:Int)).bind fun N=>J (aa .i64 ((D.length:Int)+(F.length:Int)))<|J (aa .i64 (N*(if((D.length:Int)+(F.length:Int))<1 then((D.length:Int)+(F.length:Int)) else 1)))<|some (N*(if((D.length:Int)+(F.length:Int))<1 then((D.length:Int)+(F.length:Int)) else 1));(ab Kb (([x.1,x.2.1,x.2.2.1]:aA),([M.1,M.2.1,M.2.2.1]:aA),0,x.1,x.2.1,x.2.2.1,x.2.2.2,M.1,M.2.1,M.2.2.1,M.2.2.2,())).bind fun o=>match o with|.inl (an,ar,Z,D,aE,a1,av,F,_)=>(bif decide ((D.length:Int)=0) then O F D else bif decide ((F.length:Int)=0) then O F D else(ab DN (0,an,ar,Z,D,aE,a1,av,F,())).bind fun Y=>match Y with|.inl (a8,bb,bp,ah,bx,b0,b1,az,_)=>(rS (ah.length:Int) (az.length:Int)).bind fun U=>some U|.inr (a6,_)=>some a6)|.inr (a7,_)=>some a7
def FW (b:Int):bH:=(FF b).bind fun kind=>bif decide (kind=0) then some 0 else J (0<=(63:Int))<|bif decide ((b.fdiv (2 ^(min (63:Int).toNat (IntKind.bits .u64))))=1) then some (bits .xor .u64 (if(IntKind.signed .u64) then-1 else(IntKind.max .u64)) b) else some (bits .or .u64 b 9223372036854775808)
def KF (a:Int) (b:Int):bH:=(FW a).bind fun row=>(FW b).bind fun D=>bif decide (row<D) then some (-1) else bif decide (D<row) then some 1 else some 0
def Ec (p:lH) (a:ae) (b:ae):bH:=let F:Int->Int->bH:=fun place D=>bif decide (0<=place) then(ag p.1 place).bind fun O=>(nT O.2.1).bind fun bits=>(ag p.1 D).bind fun U=>(nT U.2.1).bind fun M=>(KF M.1 bits.1).bind fun J=>bif !decide (J=0) then some J else(qo a b).bind fun bytes=>some bytes else(qo a b).bind fun N=>some N;(vH p a).bind fun place=>(vH p b).bind fun D=>bif decide (place<0) then bif decide (0<=D) then some 1 else bif decide (0<=place) then bif decide (D<0) then some (-1) else F place D else F place D else bif decide (0<=place) then bif decide (D<0) then some (-1) else F place D else F place D
def E8 (p:lH) (a:xR×Bw) (b:xR×Bw):bz:=(qo a.1.1 b.1.1).bind fun bytes=>bif decide (bytes=0) then(qn a.1.2.1).bind fun parse=>(qn b.1.2.1).bind fun M=>(tA M.1 parse.1).bind fun D=>bif decide (D=0) then(Ec p a.2.1 b.2.1).bind fun F=>some (decide (F<0)) else some (decide (D<0)) else bif decide (bytes=0) then(Ec p a.2.1 b.2.1).bind fun J=>some (decide (J<0)) else some (decide (bytes<0))
def Ea:Lp (aD×lu) jr:=fun(D,F,i,_)=>bif decide (i<(D.length:Int)) then(ag D i).bind fun M=>bif decide (M=F) then some (.inr (.inr (i,()))) else J (aa .i64 (i+1))<|some (.inl (D,F,(i+1),())) else some (.inr (.inl (())))
def E6 (l:aD) (s:ae):bH:=(ab Ea (l,s,0,())).bind fun o=>match o with|.inl (_)=>some (-1)|.inr (D,_)=>some D
def zi:Lp (bK×Int×aD×UI) (bK×UI):=fun(F,M,O,D,U,Y,Z,ah,an,N,_)=>bif decide (D<(F.length:Int)) then(ag F D).bind fun av=>(ag F M).bind fun az=>bif decide (av.1.1=az.1.1) then(ag F D).bind fun aE=>bif decide (aE.2.2=0) then(ag F D).bind fun a1=>(E6 O a1.2.1).bind fun place=>(ag F M).bind fun a6=>(E6 O a6.2.1).bind fun ar=>bif decide (place<ar) then J (0<=M/\M<N.length)<|(N[M.toNat]?).bind fun q=>J (aa .i64 (D+1))<|some (.inl (F,M,O,(D+1),U,Y,Z,ah,an,(N.set M.toNat (q.1,q.2.1,4)),())) else J (aa .i64 (D+1))<|some (.inl (F,M,O,(D+1),U,Y,Z,ah,an,N,())) else J (aa .i64 (D+1))<|some (.inl (F,M,O,(D+1),U,Y,Z,ah,an,N,())) else J (aa .i64 (D+1))<|some (.inl (F,M,O,(D+1),U,Y,Z,ah,an,N,())) else some (.inr (F,M,U,Y,Z,ah,an,N,()))
def oV:Lp (bK×UI) (bK×Unit):=fun(F,D,O,M,U,Y,Z,N)=>bif decide (D<(F.length:Int)) then(ag F D).bind fun av=>(E9 (O,M,U,Y,Z) av.1.1).bind fun ah=>(ag F D).bind fun az=>bif !decide (az.2.2=0) then J (aa .i64 (D+1))<|some (.inl (F,(D+1),O,M,U,Y,Z,N)) else bif decide (ah<0) then J (aa .i64 (D+1))<|some (.inl (F,(D+1),O,M,U,Y,Z,N)) else(ag M ah).bind fun a1=>bif !decide (a1.2.1=hW) then J (aa .i64 (D+1))<|some (.inl (F,(D+1),O,M,U,Y,Z,N)) else(ag M ah).bind fun a6=>(ab zi (F,D,a6.2.2,0,O,M,U,Y,Z,N)).bind fun(ar,an,aE)=>J (aa .i64 (an+1))<|some (.inl (ar,(an+1),aE)) else some (.inr (N))
def E7 (x:lH) (D:bK):Option bK:=J (D.length<=1000000000)<|(ab oV (D,0,x.1,x.2.1,x.2.2.1,x.2.2.2.1,x.2.2.2.2,D,())).bind fun(F,_)=>some F
def tG:Lp adr adr:=fun(a8,bb,a7,bp,bx,D,av,az,aE,a1,a6,F,M,N,O,U,Y,Z,ah,an,ar,_)=>bif decide (0<D) then J (aa .i64 (D - 1))<|(ag a7 (D - 1)).bind fun b0=>(E8 (av,az,aE,a1,a6) ((F,M,N,O,U,Y,Z,ah),an,ar) b0).bind fun ahead=>bif ahead then J (aa .i64 (D - 1))<|some (.inl (a8,bb,a7,bp,bx,(D - 1),av,az,aE,a1,a6,F,M,N,O,U,Y,Z,ah,an,ar,())) else some (.inr (a8,bb,a7,bp,bx,D,av,az,aE,a1,a6,F,M,N,O,U,Y,Z,ah,an,ar,())) else some (.inr (a8,bb,a7,bp,bx,D,av,az,aE,a1,a6,F,M,N,O,U,Y,Z,ah,an,ar,()))
def rO:Lp (ae×oJ×bK×Int×Bu) (ae×oJ×bK×Bu):=fun(av,N,az,O,U,Y,Z,ah,an,ar,_)=>(ag N O).bind fun b8=>bif decide (U<(b8.2.length:Int)) then(ag N O).bind fun cc=>(ag cc.2 U).bind fun F=>(ag N O).bind fun b2=>(Lm F.2.2.2.1 av).bind fun under=>bif !under then J (aa .i64 (U+1))<|some (.inl (av,N,az,O,(U+1),Y,Z,ah,an,ar,())) else(Eb (Y,Z,ah,an,ar) F.1).bind fun b5=>(mM b5 b2.1).bind fun b4=>bif !b4 then J (aa .i64 (U+1))<|some (.inl (av,N,az,O,(U+1),Y,Z,ah,an,ar,())) else(FU (Y,Z,ah,an,ar) F).bind fun b6=>(ab tG (av,N,az,O,U,(az.length:Int),Y,Z,ah,an,ar,F.1,F.2.1,F.2.2.1,F.2.2.2.1,F.2.2.2.2.1,F.2.2.2.2.2.1,F.2.2.2.2.2.2.1,F.2.2.2.2.2.2.2,b2.1,b6,())).bind fun(b7,ca,D,c3,b3,M,cd,ch,cj,cp,cx,aE,a1,a6,a7,a8,bb,bp,bx,b0,b1,_)=>J (0<=(0:Int)/\(0:Int)<=M/\M<=D.length)<|J (((D.take M.toNat).drop (0:Int).toNat).length<=1000000000)<|J (((D.take M.toNat).drop (0:Int).toNat).length+([((aE,a1,a6,a7,a8,bb,bp,bx),b0,b1)]:bK).length<=1000000000)<|J (0<=M/\M<=(D.length:Int)/\(D.length:Int)<=D.length)<|J ((((D.take M.toNat).drop (0:Int).toNat)++([((aE,a1,a6,a7,a8,bb,bp,bx),b0,b1)]:bK)).length+((D.take (D.length:Int).toNat).drop M.toNat).length<=1000000000)<|J (aa .i64 (b3+1))<|some (.inl (b7,ca,((((D.take M.toNat).drop (0:Int).toNat)++([((aE,a1,a6,a7,a8,bb,bp,bx),b0,b1)]:bK))++((D.take (D.length:Int).toNat).drop M.toNat)),c3,(b3+1),cd,ch,cj,cp,cx,())) else some (.inr (av,N,az,O,Y,Z,ah,an,ar,()))
def zQ:Lp (ae×oJ×bK×Bu) (bK×OP):=fun(U,D,M,N,F)=>bif decide (N<(D.length:Int)) then(ab rO (U,D,M,N,0,F)).bind fun(Y,Z,an,O,ah)=>J (aa .i64 (O+1))<|some (.inl (Y,Z,an,(O+1),ah)) else some (.inr (M,F))
def Md (x:lH) (F:ae) (J:oJ):Option bK:=(ab zQ (F,J,[],0,x.1,x.2.1,x.2.2.1,x.2.2.2.1,x.2.2.2.2,())).bind fun(Z,M,N,O,U,Y,_)=>(E7 (M,N,O,U,Y) Z).bind fun D=>some D
def Ln:Lp (bK×Int×bK×Unit) (bK×Unit):=fun(D,i,F,_)=>bif decide (i<(D.length:Int)) then(ag D i).bind fun N=>bif decide (N.2.2=0) then(ag D i).bind fun M=>J (F.length+([M]:bK).length<=1000000000)<|J (aa .i64 (i+1))<|some (.inl (D,(i+1),(F++([M]:bK)),())) else J (aa .i64 (i+1))<|some (.inl (D,(i+1),F,())) else some (.inr (F,()))
def Me (l:bK):Option bK:=(ab Ln (l,0,[],())).bind fun(D,_)=>some D
def vJ (x:xj):Option (Ux×Bool):=(Dt x.1).bind fun read=>(zR x.2).bind fun parse=>(yS x.2).bind fun D=>bif !read.2 then some (([],[],[],[]),false) else bif !decide (parse.2.1=0) then some (([],[],[],[]),false) else bif !((decide (D.2.1=0)&&(decide (D.2.2.1=0)&&decide (D.2.2.2=0)))) then some (([],[],[],[]),false) else(LJ read.1.1 read.1.2.1 read.1.2.2.1).bind fun M=>(LK M).bind fun F=>(Md read.1.2.2.2.1 read.1.2.2.2.2.1 read.1.2.2.2.2.2).bind fun N=>(Me N).bind fun J=>some ((F,D.1,J,parse.1),decide ((F.length:Int)=(J.length:Int)))
def Du:adt:=fun(Y,Z,M,N,O,D,n,ah,an,F,_)=>bif decide (D<O) then(ag N D).bind fun U=>J (F.length+([(n,U)]:aS).length<=1000000000)<|J (aa .i64 (D+1))<|some (.inl (Y,Z,M,N,O,(D+1),n,ah,an,(F++([(n,U)]:aS)),())) else some (.inr (Y,Z,M,F,()))
def PX:Lp Uy jz:=fun(O,U,F,M,_)=>bif decide (F<U) then(ag O F).bind fun D=>(ab Du (O,U,F,D.2.2,(D.2.2.length:Int),0,D.1,D.2.1,D.2.2,M,())).bind fun(Z,ah,N,Y,_)=>J (aa .i64 (N+1))<|some (.inl (Z,ah,(N+1),Y,())) else some (.inr (M,()))
def DI (l:bF):Bs:=(ab PX (l,(l.length:Int),0,[],())).bind fun(D,_)=>some D
def J3:adt:=fun(Y,Z,M,N,O,D,n,ah,an,F,_)=>bif decide (D<O) then(ag N D).bind fun U=>J (F.length+([(n,U)]:aS).length<=1000000000)<|J (aa .i64 (D+1))<|some (.inl (Y,Z,M,N,O,(D+1),n,ah,an,(F++([(n,U)]:aS)),())) else some (.inr (Y,Z,M,F,()))
def P4:Lp Uy jz:=fun(O,U,F,M,_)=>bif decide (F<U) then(ag O F).bind fun D=>(ab J3 (O,U,F,D.2.2,(D.2.2.length:Int),0,D.1,D.2.1,D.2.2,M,())).bind fun(Z,ah,N,Y,_)=>J (aa .i64 (N+1))<|some (.inl (Z,ah,(N+1),Y,())) else some (.inr (M,()))
def tz (l:bF):Bs:=(ab P4 (l,(l.length:Int),0,[],())).bind fun(D,_)=>some D
def th:Lp (Int×Nat×Int×jz) (Int×jz):=fun(F,s2,k2,D,_)=>bif decide (k2<((D.length - s2:Nat):Int)) then J (0<=k2/\k2<((D.length - s2:Nat):Int))<|(D[(s2+k2.toNat)]?).bind fun M=>J (aa .i64 (k2 - 1))<|J (0<=(k2 - 1)/\(k2 - 1)<((D.length - s2:Nat):Int))<|(D[(s2+(k2 - 1).toNat)]?).bind fun N=>bif !((decide (M.1=N.1)&&decide (M.2=N.2))) then J (0<=k2/\k2<((D.length - s2:Nat):Int))<|(D[(s2+k2.toNat)]?).bind fun O=>J (0<=F/\F<D.length)<|(D[F.toNat]?).bind fun q=>J (aa .i64 (F+1))<|J (aa .i64 (k2+1))<|some (.inl ((F+1),s2,(k2+1),(D.set F.toNat O),())) else J (aa .i64 (k2+1))<|some (.inl (F,s2,(k2+1),D,())) else some (.inr (F,D,()))
def vy:Lp (Int×jz) (jz⊕jz):=fun(k,F,_)=>bif decide (k<(F.length:Int)) then J (0<=k/\k<F.length)<|(F[k.toNat]?).bind fun y=>J (aa .i64 (k - 1))<|J (0<=(k - 1)/\(k - 1)<F.length)<|(F[(k - 1).toNat]?).bind fun N=>bif (decide (y.1=N.1)&&decide (y.2=N.2)) then J (0<=k/\k<=(F.length:Int)/\0<F.length)<|(ab th (k,k.toNat,1,F,())).bind fun(D,M,_)=>J (0<=D/\D<=(M.length:Int)/\0<M.length)<|J True<|J (0<=D/\D<=((M.take D.toNat++List.replicate (M.length - D.toNat) ([],[])).length:Int)/\0<(M.take D.toNat++List.replicate (M.length - D.toNat) ([],[])).length)<|some (.inr (.inr (((M.take D.toNat++List.replicate (M.length - D.toNat) ([],[])).take D.toNat),()))) else J (aa .i64 (k+1))<|some (.inl ((k+1),F,())) else some (.inr (.inl (F,())))
def CY (l:aS):Bs:=bif decide ((l.length:Int)<2) then some l else(ab vy (1,l,())).bind fun D=>match D with|.inl (F,_)=>some F|.inr (J,_)=>some J
def oR (c:cS):bH:=J (aa .i64 ((c.1.length:Int)+(c.2.2.length:Int)))<|some ((c.1.length:Int)+(c.2.2.length:Int))
def I7:Lp (Int×Int×bF×sE) GG:=fun(F,k,N,O,U,Y,D,M,_)=>bif decide (D<Y) then J (M.length+([(5,F,k,D,0)]:dq).length<=1000000000)<|J (aa .i64 (D+1))<|some (.inl (F,k,N,O,U,Y,(D+1),(M++([(5,F,k,D,0)]:dq)),())) else some (.inr (F,N,O,U,M,()))
def I6:Lp GG ng:=fun(F,N,O,D,M,_)=>bif decide (D<O) then(ag N D).bind fun ar=>J (M.length+([(4,F,D,0,0)]:dq).length<=1000000000)<|(ab I7 (F,D,N,O,D,(ar.2.2.length:Int),0,(M++([(4,F,D,0,0)]:dq)),())).bind fun(Y,ah,an,U,Z,_)=>J (aa .i64 (U+1))<|some (.inl (Y,ah,an,(U+1),Z,())) else some (.inr (M,()))
def yy (c:cS) (i:Int):lr:=(ag c.1 i).bind fun D=>(ab I6 (i,D.1.2.2.2.2.2.2.1,(D.1.2.2.2.2.2.2.1.length:Int),0,[],())).bind fun(F,_)=>some F
def Qt:Lp (ae×eE×xn) gV:=fun(M,N,O,D,F,_)=>bif decide (D<O) then(ag N D).bind fun U=>bif decide (U.1.1=M) then J (F.length+([D]:aA).length<=1000000000)<|J (aa .i64 (D+1))<|some (.inl (M,N,O,(D+1),(F++([D]:aA)),())) else J (aa .i64 (D+1))<|some (.inl (M,N,O,(D+1),F,())) else some (.inr (F,()))
def EU (l:eE) (s:ae):nh:=(ab Qt (s,l,(l.length:Int),0,[],())).bind fun(D,_)=>some D
def JY (c:Int×gC):bz:=bif decide (c.1=8) then some (decide (c.2.1.1=0)&&(decide (c.2.1.2.1=0)&&(decide (c.2.1.2.2=0)&&decide (c.2.2=[])))) else bif decide (0<=c.1) then bif decide (c.1<8) then(ym c.2).bind fun check=>some check else some false else some false
def Jj:Lp (jY×Int×Int×sF×NG) (jY×NG⊕Unit):=fun(M,N,O,U,Y,D,F,_)=>bif decide (D<Y) then(ag U D).bind fun Z=>(JY Z).bind fun fits=>bif !fits then some (.inr (.inr (()))) else J (aa .i64 (D+1))<|some (.inl (M,N,O,U,Y,(D+1),F,())) else some (.inr (.inl (M,N,O,F,())))
def PI:Lp (jY×NG) (jY×Unit⊕Unit):=fun(N,O,F,M,_)=>bif decide (F<O) then(ag N F).bind fun D=>bif decide ((D.length:Int)<1) then some (.inr (.inr (()))) else bif decide (4<(D.length:Int)) then some (.inr (.inr (()))) else(ab Jj (N,O,F,D,(D.length:Int),0,M,())).bind fun o=>match o with|.inl (Z,ah,U,Y,_)=>J (aa .i64 (U+1))<|some (.inl (Z,ah,(U+1),Y,()))|.inr (_)=>some (.inr (.inr (()))) else some (.inr (.inl (M,())))
def JB (r:jY):bz:=bif decide ((r.length:Int)<1) then some false else bif decide (4<(r.length:Int)) then some false else(ab PI (r,(r.length:Int),0,r,())).bind fun D=>match D with|.inl (F,_)=>(yG F).bind fun write=>some (decide ((write.length:Int)<=80))|.inr (_)=>some false
def J8 (c:Int×gC):Option gC:=bif decide (c.1=6) then(mw c.2 1).bind fun next=>some next else bif decide (0<c.2.1.1) then(mw c.2 0).bind fun TE=>some TE else bif decide (0<c.2.1.2.1) then(mw c.2 1).bind fun TD=>some TD else(mw c.2 2).bind fun D=>some D
def JK (c:Int×gC) (v:gC):bz:=(tu v c.2).bind fun D=>bif decide (c.1=0) then some (decide (D=0)) else bif decide (c.1=1) then some (!decide (D=0)) else bif decide (c.1=2) then some (decide (D<0)) else bif decide (c.1=3) then some (decide (D<=0)) else bif decide (c.1=4) then some (decide (0<D)) else bif decide (c.1=5) then some (decide (0<=D)) else bif decide (c.1=8) then some true else bif decide (0<=D) then(J8 c).bind fun end_=>(tu v end_).bind fun F=>some (decide (F<0)) else some false
def WW (a:gC) (b:gC):bz:=some (decide (a.1.1=b.1.1)&&(decide (a.1.2.1=b.1.2.1)&&decide (a.1.2.2=b.1.2.2)))
def KX:Lp (Bool×sF×Int×BC) (Bool×Unit⊕Unit):=fun(ah,U,Y,D,F,M,N,O,_)=>bif decide (D<Y) then(ag U D).bind fun Z=>(JK Z ((F,M,N),O)).bind fun holds=>bif !holds then some (.inr (.inr (()))) else bif ah then J (aa .i64 (D+1))<|some (.inl (true,U,Y,(D+1),F,M,N,O,())) else bif !decide (Z.2.2=[]) then(WW Z.2 ((F,M,N),O)).bind fun an=>J (aa .i64 (D+1))<|some (.inl (an,U,Y,(D+1),F,M,N,O,())) else J (aa .i64 (D+1))<|some (.inl (false,U,Y,(D+1),F,M,N,O,())) else some (.inr (.inl (ah,())))
def LN (a:sF) (v:gC):bz:=(ab KX (decide (v.2=[]),a,(a.length:Int),0,v.1.1,v.1.2.1,v.1.2.2,v.2,())).bind fun o=>match o with|.inl (D,_)=>some D|.inr (_)=>some false
def JA:Lp (jY×Int×BC) jq:=fun(U,Y,D,F,M,N,O,_)=>bif decide (D<Y) then(ag U D).bind fun Z=>(LN Z ((F,M,N),O)).bind fun has=>bif has then some (.inr (.inr (()))) else J (aa .i64 (D+1))<|some (.inl (U,Y,(D+1),F,M,N,O,())) else some (.inr (.inl (())))
def JX (r:jY) (v:gC):bz:=(JB r).bind fun check=>bif !check then some false else(ym v).bind fun check_1=>bif !check_1 then some false else(ab JA (r,(r.length:Int),0,v.1.1,v.1.2.1,v.1.2.2,v.2,())).bind fun o=>match o with|.inl (_)=>some false|.inr (_)=>some true
def ze (i:Int) (D:pL) (F:eE):bz:=(ag F i).bind fun J=>(JX D.2.1 J.1.2.1).bind fun has=>some (!has)
def IA:Lp (aA×pL×eE×iP) jr:=fun(N,F,M,O,D,_)=>bif decide (D<O) then(ag N D).bind fun Y=>(ze Y F M).bind fun U=>bif U then some (.inr (.inr (D,()))) else J (aa .i64 (D+1))<|some (.inl (N,F,M,O,(D+1),())) else some (.inr (.inl (())))
def Pj (s:aA) (f:pL) (D:eE):bH:=(ab IA (s,f,D,(s.length:Int),0,())).bind fun o=>match o with|.inl (_)=>some (-1)|.inr (F,_)=>some F
def Iy:Lp (pL×eE×xn) xl:=fun(M,N,D,j,F,_)=>bif decide (j<(F.length:Int)) then J (0<=j/\j<F.length)<|(F[j.toNat]?).bind fun y=>(ze y M N).bind fun O=>bif !O then J (0<=D/\D<F.length)<|(F[D.toNat]?).bind fun q=>J (aa .i64 (D+1))<|J (aa .i64 (j+1))<|some (.inl (M,N,(D+1),(j+1),(F.set D.toNat y),())) else J (aa .i64 (j+1))<|some (.inl (M,N,D,(j+1),F,())) else some (.inr (D,F,()))
def IC (del:pL) (N:eE) (l:aA):nh:=(Pj l del N).bind fun M=>bif decide (M=(-1)) then some l else J (aa .i64 (M+1))<|(ab Iy (del,N,M,(M+1),l,())).bind fun(D,F,_)=>J (0<=D/\D<=(F.length:Int)/\0<F.length)<|J True<|J (0<=D/\D<=((F.take D.toNat++List.replicate (F.length - D.toNat) 0).length:Int)/\0<(F.take D.toNat++List.replicate (F.length - D.toNat) 0).length)<|some ((F.take D.toNat++List.replicate (F.length - D.toNat) 0).take D.toNat)
def zJ (l:eE) (n:pL):nh:=(EU l n.1).bind fun of=>(IC n l of).bind fun delete=>some delete
def Jd:Lp (cS×Int×Int×Int×aA×ng) (cS×Int×ng):=fun(U,F,O,D,M,N,_)=>bif decide (D<O) then J (0<=D/\D<M.length)<|(M[D.toNat]?).bind fun y=>bif decide (F<y) then J (N.length+([(3,F,y,0,0)]:dq).length<=1000000000)<|J (aa .i64 (D+1))<|some (.inl (U,F,O,(D+1),M,(N++([(3,F,y,0,0)]:dq)),())) else J (aa .i64 (D+1))<|some (.inl (U,F,O,(D+1),M,N,())) else some (.inr (U,F,N,()))
def Jc:Lp (cS×Int×Int×bF×Int×Int×Int×Int×dq×gV) (cS×GG):=fun(an,F,O,U,Y,Z,ah,D,M,N,_)=>bif decide (D<ah) then J (0<=D/\D<N.length)<|(N[D.toNat]?).bind fun ar=>J (M.length+([(9,F,O,ar,0)]:dq).length<=1000000000)<|J (aa .i64 (D+1))<|some (.inl (an,F,O,U,Y,Z,ah,(D+1),(M++([(9,F,O,ar,0)]:dq)),N,())) else some (.inr (an,F,U,Y,Z,M,()))
def Jb:Lp (cS×GG) ng:=fun(Y,ah,N,O,D,M,_)=>bif decide (D<O) then(ag N D).bind fun az=>(zJ Y.1 az).bind fun F=>(ab Jc (Y,ah,D,N,O,D,(F.length:Int),0,M,F,())).bind fun(aE,an,ar,av,U,Z,_)=>J (aa .i64 (U+1))<|some (.inl (aE,an,ar,av,(U+1),Z,())) else some (.inr (M,()))
def yF (x:cS) (D:Int):lr:=(ag x.1 D).bind fun U=>(EU x.1 U.1.1).bind fun of=>(ab Jd (x,D,(of.length:Int),0,of,[],())).bind fun(M,F,N,_)=>(ag M.1 F).bind fun J=>(ab Jb (M,F,J.1.2.2.2.2.2.1,(J.1.2.2.2.2.2.1.length:Int),0,N,())).bind fun(O,_)=>some O
def IS:Lp (cS×Int×Int×Int×aS×Int×Int×bF×sE) adg:=fun(az,F,M,O,U,Y,Z,ah,an,ar,av,D,N,_)=>bif decide (D<av) then J (N.length+([(8,F,M,O,D)]:dq).length<=1000000000)<|J (aa .i64 (D+1))<|some (.inl (az,F,M,O,U,Y,Z,ah,an,ar,av,(D+1),(N++([(8,F,M,O,D)]:dq)),())) else some (.inr (az,F,M,U,Y,Z,ah,an,ar,N,()))
def IQ:Lp adg (cS×Int×aS×nF):=fun(ar,F,N,O,U,Y,Z,ah,D,M,_)=>bif decide (D<ah) then(ag Z D).bind fun bp=>J (M.length+([(7,F,N,D,0)]:dq).length<=1000000000)<|(ab IS (ar,F,N,D,O,U,Y,Z,ah,D,(bp.2.2.length:Int),0,(M++([(7,F,N,D,0)]:dq)),())).bind fun(bx,a6,bb,az,aE,a1,a7,a8,an,av,_)=>J (aa .i64 (an+1))<|some (.inl (bx,a6,bb,az,aE,a1,a7,a8,(an+1),av,())) else some (.inr (ar,F,O,U,Y,M,()))
def PA:Lp (cS×Int×aS×nF) ng:=fun(M,F,O,U,D,N,_)=>bif decide (D<U) then(ag O D).bind fun ah=>(ag M.1 F).bind fun a1=>bif !decide (ah.1=a1.1.1) then J (aa .i64 (D+1))<|some (.inl (M,F,O,U,(D+1),N,())) else(ag M.1 F).bind fun a6=>(qb a6.1 ah.2).bind fun Y=>bif decide (Y<0) then J (N.length+([(6,F,D,0,0)]:dq).length<=1000000000)<|J (aa .i64 (D+1))<|some (.inl (M,F,O,U,(D+1),(N++([(6,F,D,0,0)]:dq)),())) else(ag M.1 F).bind fun a7=>(ag a7.1.2.2.2.2.2.2.2 Y).bind fun an=>(ab IQ (M,F,D,O,U,D,an.2,(an.2.length:Int),0,N,())).bind fun(a8,aE,av,az,Z,ar,_)=>J (aa .i64 (Z+1))<|some (.inl (a8,aE,av,az,(Z+1),ar,())) else some (.inr (N,()))
def yp (x:cS) (F:Int):lr:=(ab PA (x,F,x.2.2,(x.2.2.length:Int),0,[],())).bind fun(D,_)=>some D
def D5:Lp (Int×uH) Bt:=fun(F,N,O,D,_)=>bif decide (D<O) then(ag N D).bind fun M=>bif !decide (M=F) then some (.inr (.inr (M,()))) else J (aa .i64 (D+1))<|some (.inl (F,N,O,(D+1),())) else some (.inr (.inl (F,())))
def Lb (vals:aA):bH:=(ab D5 (0,vals,(vals.length:Int),0,())).bind fun o=>match o with|.inl (F,_)=>some F|.inr (D,_)=>some D
def qg (a:kL) (b:kL):bH:=(my a.1 b.1).bind fun D=>(my a.2.1 b.2.1).bind fun F=>(my a.2.2.1 b.2.2.1).bind fun J=>(my a.2.2.2.1 b.2.2.2.1).bind fun M=>(my a.2.2.2.2 b.2.2.2.2).bind fun N=>(Lb ([D,F,J,M,N]:aA)).bind fun or=>some or
def OY:Lp sE q7:=fun(F,M,N,j,D,_)=>bif decide (F<j) then J (0<=j/\j<D.length)<|(D[j.toNat]?).bind fun y=>J (aa .i64 (j - 1))<|J (0<=(j - 1)/\(j - 1)<D.length)<|(D[(j - 1).toNat]?).bind fun Y=>(qg y Y).bind fun U=>bif decide (U<0) then J (aa .i64 (j - 1))<|J (aa .i64 (j - 1))<|J (0<=(j - 1)/\(j - 1)<D.length)<|(D[(j - 1).toNat]?).bind fun O=>J (0<=j/\j<D.length)<|(D[j.toNat]?).bind fun Z=>J (0<=j/\j<D.length)<|(D[j.toNat]?).bind fun q=>J (0<=(j - 1)/\(j - 1)<(D.set j.toNat O).length)<|((D.set j.toNat O)[(j - 1).toNat]?).bind fun ah=>J (aa .i64 (j - 1))<|some (.inl (F,M,N,(j - 1),((D.set j.toNat O).set (j - 1).toNat Z),())) else some (.inr (F,M,N,D,())) else some (.inr (F,M,N,D,()))
def OX:Lp q7 ng:=fun(N,D,i,M,_)=>bif decide (i<D) then(ab OY (N,D,i,i,M,())).bind fun(O,U,F,Y,_)=>J (aa .i64 (F+1))<|some (.inl (O,U,(F+1),Y,())) else some (.inr (M,()))
def CB (a:Int) (b:Int) (l:dq):lr:=J (aa .i64 (a+1))<|(ab OX (a,b,(a+1),l,())).bind fun(D,_)=>some D
def afn:Lp sE ng:=fun(D,F,N,i,M,_)=>bif decide (i<N) then J (aa .i64 (D+i))<|J (aa .i64 (F+i))<|J (aa .i64 (F+i))<|J (0<=(F+i)/\(F+i)<M.length)<|(M[(F+i).toNat]?).bind fun y=>J (aa .i64 (D+i))<|J (0<=(D+i)/\(D+i)<M.length)<|(M[(D+i).toNat]?).bind fun O=>J (0<=(D+i)/\(D+i)<M.length)<|(M[(D+i).toNat]?).bind fun q=>J (0<=(F+i)/\(F+i)<(M.set (D+i).toNat y).length)<|((M.set (D+i).toNat y)[(F+i).toNat]?).bind fun U=>J (aa .i64 (i+1))<|some (.inl (D,F,N,(i+1),((M.set (D+i).toNat y).set (F+i).toNat O),())) else some (.inr (M,()))
def CE (a:Int) (b:Int) (n:Int) (l:dq):lr:=(ab afn (a,b,n,0,l,())).bind fun(D,_)=>some D
def Pe:Lp q7 nF:=fun(F,D,j,M,_)=>bif !decide (D=j) then bif decide (j<D) then J (aa .i64 (F - D))<|(CE (F - D) F j M).bind fun N=>J (aa .i64 (D - j))<|J (M.length=N.length)<|some (.inl (F,(D - j),j,N,())) else J (aa .i64 (F - D))<|J (aa .i64 (F+j))<|J (aa .i64 ((F+j) - D))<|(CE (F - D) ((F+j) - D) D M).bind fun O=>J (aa .i64 (j - D))<|J (M.length=O.length)<|some (.inl (F,D,(j - D),O,())) else some (.inr (F,D,M,()))
def It (a:Int) (m:Int) (b:Int) (l:dq):lr:=J (aa .i64 (m - a))<|J (aa .i64 (b - m))<|(ab Pe (m,(m - a),(b - m),l,())).bind fun(F,D,M,_)=>J (aa .i64 (F - D))<|(CE (F - D) F D M).bind fun N=>some N
def O7 (rc:Bx):Lp q7 nF:=fun(N,D,F,M,_)=>bif decide (D<F) then J (aa .i64 (D+F))<|J (0<=(1:Int))<|J (0<=(hf (D+F))/\(hf (D+F))<M.length)<|(M[(hf (D+F)).toNat]?).bind fun y=>J (0<=N/\N<M.length)<|(M[N.toNat]?).bind fun U=>(qg y U).bind fun O=>bif decide (O<0) then J (aa .i64 ((hf (D+F))+1))<|some (.inl (N,((hf (D+F))+1),F,M,())) else some (.inl (N,D,(hf (D+F)),M,())) else some (.inr (N,D,M,()))
def VP (rc:Bx):Lp nF ng:=fun(M,D,F,_)=>J (aa .i64 (M - 1))<|bif decide (D<(M - 1)) then J (aa .i64 (D+1))<|J (aa .i64 (D+1))<|J (0<=(D+1)/\(D+1)<F.length)<|(F[(D+1).toNat]?).bind fun N=>J (0<=D/\D<F.length)<|(F[D.toNat]?).bind fun O=>J (0<=D/\D<F.length)<|(F[D.toNat]?).bind fun q=>J (0<=(D+1)/\(D+1)<(F.set D.toNat N).length)<|((F.set D.toNat N)[(D+1).toNat]?).bind fun U=>J (aa .i64 (D+1))<|some (.inl (M,(D+1),((F.set D.toNat N).set (D+1).toNat O),())) else some (.inr (F,()))
def O6 (rc:Bx):Lp q7 nF:=fun(N,D,F,M,_)=>bif decide (D<F) then J (aa .i64 (D+F))<|J (0<=(1:Int))<|J (0<=N/\N<M.length)<|(M[N.toNat]?).bind fun U=>J (0<=(hf (D+F))/\(hf (D+F))<M.length)<|(M[(hf (D+F)).toNat]?).bind fun Y=>(qg U Y).bind fun O=>bif !(decide (O<0)) then J (aa .i64 ((hf (D+F))+1))<|some (.inl (N,((hf (D+F))+1),F,M,())) else some (.inl (N,D,(hf (D+F)),M,())) else some (.inr (N,D,M,()))
def VN (rc:Bx):Lp nF ng:=fun(N,D,F,_)=>bif decide (N<D) then J (aa .i64 (D - 1))<|J (aa .i64 (D - 1))<|J (0<=(D - 1)/\(D - 1)<F.length)<|(F[(D - 1).toNat]?).bind fun M=>J (0<=D/\D<F.length)<|(F[D.toNat]?).bind fun O=>J (0<=D/\D<F.length)<|(F[D.toNat]?).bind fun U=>J (0<=(D - 1)/\(D - 1)<(F.set D.toNat M).length)<|((F.set D.toNat M)[(D - 1).toNat]?).bind fun Y=>J (aa .i64 (D - 1))<|some (.inl (N,(D - 1),((F.set D.toNat M).set (D - 1).toNat O),())) else some (.inr (F,()))
def Ip (rc:Bx):Lp (Int×Int×Int×Int×sE) (Int×Int×sE):=fun(Y,Z,ah,O,U,D,F,N,M,_)=>bif decide (D<F) then J (aa .i64 (D+F))<|J (0<=(1:Int))<|J (aa .i64 (N - (hf (D+F))))<|J (0<=(N - (hf (D+F)))/\(N - (hf (D+F)))<M.length)<|(M[(N - (hf (D+F))).toNat]?).bind fun ar=>J (0<=(hf (D+F))/\(hf (D+F))<M.length)<|(M[(hf (D+F)).toNat]?).bind fun av=>(qg ar av).bind fun an=>bif !(decide (an<0)) then J (aa .i64 ((hf (D+F))+1))<|some (.inl (Y,Z,ah,O,U,((hf (D+F))+1),F,N,M,())) else some (.inl (Y,Z,ah,O,U,D,(hf (D+F)),N,M,())) else some (.inr (Y,Z,ah,O,U,D,M,()))
def O5 (rc:Bx) (N:Int) (F:Int) (O:Int) (l:dq):lr:=J (aa .i64 (F - N))<|bif decide ((F - N)=1) then(ab (O7 rc) (N,F,O,l,())).bind fun(a,b,q,_)=>(ab (VP rc) (b,a,q,())).bind fun(q,_)=>some q else J (aa .i64 (O - F))<|bif decide ((O - F)=1) then(ab (O6 rc) (F,N,F,l,())).bind fun(a,b,q,_)=>(ab (VN rc) (b,a,q,())).bind fun(q,_)=>some q else J (aa .i64 (N+O))<|J (0<=(1:Int))<|let M:Int:=hf (N+O);let K:Int×Int×Int×Int×Int×Int×List (Int×Int×Int×Int×Int)×Unit->Option (List (Int×Int×Int×Int×Int)):=fun(Y,y2,Z,U,z2,z3,o,_)=>J (aa .i64 (z2 - z3))<|let w:Int:=z2 - z3;let D0:List (Int×Int×Int×Int×Int)->Option (List (Int×Int×Int×Int×Int)):=fun q=>bif decide (U<w) then(bif decide (w<Z) then(rc U w Z q).bind fun s=>some s else some q) else some q;let D:List (Int×Int×Int×Int×Int)->List (Int×Int×Int×Int×Int)->Option (List (Int×Int×Int×Int×Int)):=fun p q=>bif decide (U<w) then(bif decide (w<Z) then J (p.length=q.length)<|(rc U w Z q).bind fun s=>some s else some q) else some q;let E0:List (Int×Int×Int×Int×Int)->Option (List (Int×Int×Int×Int×Int)):=fun q=>bif decide (Y<z3) then(bif decide (z3<U) then(rc Y z3 U q).bind fun s=>D q s else D0 q) else D0 q;let E:List (Int×Int×Int×Int×Int)->List (Int×Int×Int×Int×Int)->Option (List (Int×Int×Int×Int×Int)):=fun p q=>bif decide (Y<z3) then(bif decide (z3<U) then J (p.length=q.length)<|(rc Y z3 U q).bind fun s=>D q s else D p q) else D p q;bif decide (z3<y2) then(bif decide (y2<w) then(It z3 y2 w o).bind fun r=>E o r else E0 o) else E0 o;J (aa .i64 (M+F))<|bif decide (M<F) then J (aa .i64 ((M+F) - O))<|J (aa .i64 ((M+F) - 1))<|(ab (Ip rc) (N,F,O,M,(M+F),((M+F) - O),M,((M+F) - 1),l,())).bind K else J (aa .i64 ((M+F) - 1))<|(ab (Ip rc) (N,F,O,M,(M+F),N,F,((M+F) - 1),l,())).bind K
def Io (rc:q7->lr):q7->lr:=fun x=>O5 (fun a0 D a2 a3=>rc (a0,D,a2,a3,())) x.1 x.2.1 x.2.2.1 x.2.2.2.1
def Pa (a0:Int) (D:Int) (a2:Int) (a3:dq):lr:=ou Io (a0,D,a2,a3,())
def Pd:Lp sE q7:=fun(F,D,N,b,M,_)=>bif decide (b<=F) then(CB N b M).bind fun insert=>J (aa .i64 (b+D))<|J (M.length=insert.length)<|some (.inl (F,D,b,(b+D),insert,())) else some (.inr (F,D,N,M,()))
def Pc:Lp sE q7:=fun(N,D,M,F,O,_)=>bif decide (F<=N) then J (aa .i64 (M+D))<|(Pa M (M+D) F O).bind fun U=>J (aa .i64 (2*D))<|J (aa .i64 (F+(2*D)))<|J (O.length=U.length)<|some (.inl (N,D,F,(F+(2*D)),U,())) else some (.inr (N,D,M,O,()))
def Pb:Lp nF ng:=fun(U,M,Y,_)=>bif decide (M<U) then J (aa .i64 (2*M))<|(ab Pc (U,M,0,(2*M),Y,())).bind fun(N,D,F,O,_)=>J (aa .i64 (F+D))<|bif decide ((F+D)<N) then(Pa F (F+D) N O).bind fun Z=>J (aa .i64 (D*2))<|J (O.length=Z.length)<|some (.inl (N,(D*2),Z,())) else J (aa .i64 (D*2))<|some (.inl (N,(D*2),O,())) else some (.inr (Y,()))
def Is (n:Int) (l:dq):lr:=(ab Pd (n,20,0,20,l,())).bind fun(F,O,N,M,_)=>(CB N F M).bind fun D=>(J (M.length=D.length)<|ab Pb (F,O,D,())).bind fun(U,_)=>some U
def ya (l:dq):lr:=(Is (l.length:Int) l).bind fun D=>some D
def Jh:Lp (cS×Int×bF×sE) (cS×bF×nF):=fun(Z,M,N,O,U,Y,D,F,_)=>bif decide (D<Y) then J (F.length+([(2,M,D,0,0)]:dq).length<=1000000000)<|J (aa .i64 (D+1))<|some (.inl (Z,M,N,O,U,Y,(D+1),(F++([(2,M,D,0,0)]:dq)),())) else some (.inr (Z,N,O,U,F,()))
def Jg:Lp (cS×bF×nF) (cS×ng):=fun(U,M,N,D,F,_)=>bif decide (D<N) then(ag M D).bind fun an=>J (F.length+([(1,D,0,0,0)]:dq).length<=1000000000)<|(ab Jh (U,D,M,N,D,(an.2.2.length:Int),0,(F++([(1,D,0,0,0)]:dq)),())).bind fun(ar,Z,ah,O,Y,_)=>J (aa .i64 (O+1))<|some (.inl (ar,Z,ah,(O+1),Y,())) else some (.inr (U,F,()))
def Jf:Lp (cS×nF) ng:=fun(M,O,D,F,_)=>bif decide (D<O) then(yy M D).bind fun single=>J (F.length+single.length<=1000000000)<|(yF M D).bind fun sg=>J ((F++single).length+sg.length<=1000000000)<|(yp M D).bind fun N=>J (((F++single)++sg).length+N.length<=1000000000)<|J (aa .i64 (D+1))<|some (.inl (M,O,(D+1),(((F++single)++sg)++N),())) else some (.inr (F,()))
def nK (x:cS):lr:=(ab Jg (x,x.2.1,(x.2.1.length:Int),0,[],())).bind fun(M,N,_)=>(ab Jf (M,(M.1.length:Int),0,N,())).bind fun(D,_)=>(ya D).bind fun F=>J (D.length=F.length)<|some F
def Kr:Lp (eE×Int×Int×p6×UA) (eE×UA):=fun(U,Y,Z,ah,an,D,F,N,O,_)=>bif decide (D<an) then(ag ah D).bind fun ar=>(tz ar.2).bind fun M=>J (F.length+M.length<=1000000000)<|J (aa .i64 (D+1))<|some (.inl (U,Y,Z,ah,an,(D+1),(F++M),N,O,())) else some (.inr (U,Y,Z,F,N,O,()))
def Kq:Lp (eE×UA) (aS×eE×GD):=fun(Y,Z,F,D,O,U,_)=>bif decide (F<Z) then(ag Y F).bind fun M=>(tz M.1.2.2.2.2.2.2.1).bind fun N=>J (D.length+N.length<=1000000000)<|(ab Kr (Y,Z,F,M.1.2.2.2.2.2.2.2,(M.1.2.2.2.2.2.2.2.length:Int),0,(D++N),O,U,())).bind fun(az,aE,ah,an,ar,av,_)=>J (aa .i64 (ah+1))<|some (.inl (az,aE,(ah+1),an,ar,av,())) else some (.inr (D,O,U,()))
def zF (x:eE) (U:bF):Option (cS×eD⊕eD):=(DI U).bind fun asked=>(ab Kq (x,(x.length:Int),0,asked,x,U,())).bind fun(N,F,M,_)=>(vV N).bind fun O=>J (N.length=O.length)<|(CY O).bind fun D=>(oR (F,M,D)).bind fun vars=>bif decide (400<vars) then some (.inr (2,())) else(nK (F,M,D)).bind fun facts=>bif decide (8000<(facts.length:Int)) then some (.inr (2,())) else some (.inl ((F,M,D),0,()))
def CX:Lp (dq×Int×Nz) jr:=fun(M,x7,F,N,O,U,Y,Z,_)=>bif decide (F<x7) then(ag M F).bind fun D=>bif (decide (N=D.1)&&(decide (O=D.2.1)&&(decide (U=D.2.2.1)&&(decide (Y=D.2.2.2.1)&&decide (Z=D.2.2.2.2))))) then some (.inr (.inr (F,()))) else J (aa .i64 (F+1))<|some (.inl (M,x7,(F+1),N,O,U,Y,Z,())) else some (.inr (.inl (())))
def PQ (s:dq) (v:kL):bH:=(ab CX (s,(s.length:Int),0,v.1,v.2.1,v.2.2.1,v.2.2.2.1,v.2.2.2.2,())).bind fun o=>match o with|.inl (_)=>some (-1)|.inr (D,_)=>some D
def nH (s:dq) (v:kL):bz:=(PQ s v).bind fun index=>some (decide (0<=index))
def lK (x:cS) (D:kL):bz:=bif decide (D.1<1) then some false else bif decide (9<D.1) then some false else bif decide (D.1=1) then(nK x).bind fun facts=>(nH facts D).bind fun F=>some F else bif decide (D.1=2) then(nK x).bind fun Z=>(nH Z D).bind fun J=>some J else bif decide (D.2.1<0) then some false else bif decide ((x.1.length:Int)<=D.2.1) then some false else bif decide (D.1=4) then(yy x D.2.1).bind fun single=>(nH single D).bind fun M=>some M else bif decide (D.1=5) then(yy x D.2.1).bind fun ar=>(nH ar D).bind fun N=>some N else bif decide (D.1=3) then(yF x D.2.1).bind fun sg=>(nH sg D).bind fun O=>some O else bif decide (D.1=9) then(yF x D.2.1).bind fun an=>(nH an D).bind fun U=>some U else(yp x D.2.1).bind fun ah=>(nH ah D).bind fun Y=>some Y
def I5:Lp xn gV:=fun(M,D,F,_)=>bif decide (D<M) then J (0<=D/\D<F.length)<|(F[D.toNat]?).bind fun y=>J (aa .i64 (y+1))<|J (0<=D/\D<F.length)<|(F[D.toNat]?).bind fun q=>J (aa .i64 (D+1))<|some (.inl (M,(D+1),(F.set D.toNat (y+1)),())) else some (.inr (F,()))
def C' (c:cS) (n:pL):nh:=(zJ c.1 n).bind fun D=>(ab I5 ((D.length:Int),0,D,())).bind fun(F,_)=>some F
def D4 (a:iw) (b:iw):bH:=(rI a.1 b.1).bind fun D=>bif !decide (D=0) then some D else(rI a.2 b.2).bind fun F=>some F
def CH:Lp (aS×Int×Int×GH) (aS×Int×GH):=fun(N,O,D,j,F,M,_)=>bif decide (D<j) then J (aa .i64 (D+j))<|J (0<=(1:Int))<|(ag N (hf (D+j))).bind fun U=>(D4 U (F,M)).bind fun order=>bif decide (order<0) then J (aa .i64 ((hf (D+j))+1))<|some (.inl (N,O,((hf (D+j))+1),j,F,M,())) else some (.inl (N,O,D,(hf (D+j)),F,M,())) else some (.inr (N,O,D,F,M,()))
def Ir (x:aS) (target:iw):sG:=(ab CH (x,(x.length:Int),0,(x.length:Int),target.1,target.2,())).bind fun(U,F,D,M,N,_)=>bif decide (D<F) then(ag U D).bind fun O=>(D4 O (M,N)).bind fun J=>some (D,decide (J=0)) else some (D,false)
def qe (c:cS) (x:iw):bH:=(Ir c.2.2 x).bind fun binary=>bif !binary.2 then some 0 else J (aa .i64 ((c.1.length:Int)+binary.1))<|J (aa .i64 (((c.1.length:Int)+binary.1)+1))<|some (((c.1.length:Int)+binary.1)+1)
def yI (c:cS) (n:pL) (k:Int):bH:=(ag n.2.2 k).bind fun D=>(qe c (n.1,D)).bind fun var=>some var
def C1 (c:cS) (f:kL):Option (ae×bF):=(ag c.1 f.2.1).bind fun D=>(ag c.2.2 f.2.2.1).bind fun J=>(qb D.1 J.2).bind fun F=>(ag D.1.2.2.2.2.2.2.2 F).bind fun M=>some M
def Da:Lp xn gV:=fun(M,D,F,_)=>bif decide (D<M) then J (0<=D/\D<F.length)<|(F[D.toNat]?).bind fun y=>J (aa .i64 (y+1))<|J (0<=D/\D<F.length)<|(F[D.toNat]?).bind fun q=>J (aa .i64 (D+1))<|some (.inl (M,(D+1),(F.set D.toNat (y+1)),())) else some (.inr (F,()))
def JJ (c:cS) (n:pL):nh:=(zJ c.1 n).bind fun D=>(ab Da ((D.length:Int),0,D,())).bind fun(F,_)=>some F
def fg (x:cS) (D:kL):UE:=(lK x D).bind fun there=>bif !there then some ([],false) else J (aa .i64 (D.2.1+1))<|J (aa .i64 (0 - (D.2.1+1)))<|bif decide (D.1=1) then(ag x.2.1 D.2.1).bind fun a7=>(C' x a7).bind fun some_=>(mC some_).bind fun norm=>some (norm.1,true) else bif decide (D.1=2) then(ag x.2.1 D.2.1).bind fun a8=>(yI x a8 D.2.2.1).bind fun asks=>some (([asks]:aA),true) else bif decide (D.1=3) then J (aa .i64 (D.2.2.1+1))<|J (aa .i64 (0 - (D.2.2.1+1)))<|(mC ([(0 - (D.2.1+1)),(0 - (D.2.2.1+1))]:aA)).bind fun Z=>some (Z.1,true) else bif decide (D.1=4) then(ag x.1 D.2.1).bind fun bb=>(ag bb.1.2.2.2.2.2.2.1 D.2.2.1).bind fun bp=>(C' x bp).bind fun M=>J (M.length+([(0 - (D.2.1+1))]:aA).length<=1000000000)<|(mC (M++([(0 - (D.2.1+1))]:aA))).bind fun ah=>some (ah.1,true) else bif decide (D.1=5) then(ag x.1 D.2.1).bind fun bx=>(ag bx.1.2.2.2.2.2.2.1 D.2.2.1).bind fun b0=>(yI x b0 D.2.2.2.1).bind fun O=>(mC ([(0 - (D.2.1+1)),O]:aA)).bind fun an=>some (an.1,true) else bif decide (D.1=9) then J (aa .i64 (D.2.2.2.1+1))<|J (aa .i64 (0 - (D.2.2.2.1+1)))<|(mC ([(0 - (D.2.1+1)),(0 - (D.2.2.2.1+1))]:aA)).bind fun ar=>some (ar.1,true) else J (aa .i64 ((x.1.length:Int)+D.2.2.1))<|J (aa .i64 (((x.1.length:Int)+D.2.2.1)+1))<|J (aa .i64 (0 - (((x.1.length:Int)+D.2.2.1)+1)))<|bif decide (D.1=7) then(C1 x D).bind fun U=>(ag U.2 D.2.2.2.1).bind fun a1=>(JJ x a1).bind fun N=>J (([(0 - (D.2.1+1)),(0 - (((x.1.length:Int)+D.2.2.1)+1))]:aA).length+N.length<=1000000000)<|(mC (([(0 - (D.2.1+1)),(0 - (((x.1.length:Int)+D.2.2.1)+1))]:aA)++N)).bind fun av=>some (av.1,true) else bif decide (D.1=8) then(C1 x D).bind fun Y=>(ag Y.2 D.2.2.2.1).bind fun a6=>(yI x a6 D.2.2.2.2).bind fun F=>J (([(0 - (D.2.1+1)),(0 - (((x.1.length:Int)+D.2.2.1)+1))]:aA).length+([F]:aA).length<=1000000000)<|(mC (([(0 - (D.2.1+1)),(0 - (((x.1.length:Int)+D.2.2.1)+1))]:aA)++([F]:aA))).bind fun az=>some (az.1,true) else(mC ([(0 - (D.2.1+1)),(0 - (((x.1.length:Int)+D.2.2.1)+1))]:aA)).bind fun aE=>some (aE.1,true)
def IW:Lp (cS×dq×Int×Int×Int×Int×gO×Unit) (Int×Int×gO×Unit):=fun(M,O,U,D,Y,N,F,_)=>bif decide (D<U) then(ag O D).bind fun Z=>(fg M Z).bind fun clause=>J (F.length+([clause.1]:gO).length<=1000000000)<|J (aa .i64 (D+1))<|some (.inl (M,O,U,(D+1),Y,N,(F++([clause.1]:gO)),())) else some (.inr (Y,N,F,()))
def yu (c:cS):Option (Int×gO):=(oR c).bind fun vars=>(nK c).bind fun facts=>(ab IW (c,facts,(facts.length:Int),0,0,vars,[],())).bind fun(J,D,F,_)=>some (D,F)
def K4:Lp (aA×sI) jq:=fun(D,F,i,_)=>bif decide (i<(D.length:Int)) then(ag D i).bind fun M=>(ag F i).bind fun N=>bif !decide (M=N) then some (.inr (.inr (()))) else J (aa .i64 (i+1))<|some (.inl (D,F,(i+1),())) else some (.inr (.inl (())))
def oZ (a:aA) (b:aA):bz:=bif !decide ((a.length:Int)=(b.length:Int)) then some false else(ab K4 (a,b,0,())).bind fun o=>match o with|.inl (_)=>some true|.inr (_)=>some false
def eO:bz:=(vJ ((agi,s_t,([agj]:aD)),agA)).bind fun read=>bif !read.2 then some false else(zF read.1.1 read.1.2.1).bind fun o=>match o with|.inl (new,M,_)=>bif !decide (M=0) then some false else(yu new).bind fun D=>(oR new).bind fun vars=>bif decide (vars=3) then bif decide ((D.2.length:Int)=3) then(ag D.2 0).bind fun N=>(oZ N ([1]:aA)).bind fun ints=>bif ints then(ag D.2 1).bind fun O=>(oZ O ([(-1),2]:aA)).bind fun F=>bif F then(ag D.2 2).bind fun U=>(oZ U ([(-1),3]:aA)).bind fun J=>bif J then(qe new (s_b,s_x)).bind fun var=>some (decide (var=3)) else some false else some false else some false else some false else some false|.inr (Y,_)=>some false
def zK:Lp (aS×GH) (aS×GH⊕jz):=fun(F,D,M,N,_)=>bif decide (D<(F.length:Int)) then(ag F D).bind fun U=>(qo U.1 M).bind fun bytes=>bif decide (bytes=0) then(ag F D).bind fun Y=>(qo Y.2 N).bind fun O=>bif decide (O=0) then some (.inr (.inr (F,()))) else bif decide (0<O) then some (.inr (.inl (F,D,M,N,()))) else J (aa .i64 (D+1))<|some (.inl (F,(D+1),M,N,())) else bif decide (bytes=0) then some (.inr (.inr (F,()))) else bif decide (0<bytes) then some (.inr (.inl (F,D,M,N,()))) else J (aa .i64 (D+1))<|some (.inl (F,(D+1),M,N,())) else some (.inr (.inl (F,D,M,N,())))
def Mb (l:aS) (t:iw):Bs:=(ab zK (l,0,t.1,t.2,())).bind fun o=>match o with|.inl (D,F,M,N,_)=>J (0<=(0:Int)/\(0:Int)<=F/\F<=D.length)<|J (((D.take F.toNat).drop (0:Int).toNat).length<=1000000000)<|J (((D.take F.toNat).drop (0:Int).toNat).length+([(M,N)]:aS).length<=1000000000)<|J (0<=F/\F<=(D.length:Int)/\(D.length:Int)<=D.length)<|J ((((D.take F.toNat).drop (0:Int).toNat)++([(M,N)]:aS)).length+((D.take (D.length:Int).toNat).drop F.toNat).length<=1000000000)<|some ((((D.take F.toNat).drop (0:Int).toNat)++([(M,N)]:aS))++((D.take (D.length:Int).toNat).drop F.toNat))|.inr (O,_)=>some O
def Kx:Lp (aS×aK×iP) (aS×aK×eD):=fun(M,F,D,k,_)=>(ag F D).bind fun N=>bif decide (k<(N.2.2.length:Int)) then(ag F D).bind fun O=>(ag F D).bind fun U=>(ag U.2.2 k).bind fun Y=>(Mb M (O.1,Y)).bind fun put=>J (aa .i64 (k+1))<|some (.inl (put,F,D,(k+1),())) else some (.inr (M,F,D,()))
def Kw:Lp (aS×aK×eD) jz:=fun(F,M,i,_)=>bif decide (i<(M.length:Int)) then(ab Kx (F,M,i,0,())).bind fun(N,O,D,_)=>J (aa .i64 (D+1))<|some (.inl (N,O,(D+1),())) else some (.inr (F,()))
def zL (l:aS) (dO:aK):Bs:=(ab Kw (l,dO,0,())).bind fun(D,_)=>some D
def E4:Lp (bK×Int×Int×bK×pP) (bK×Int×bK×pP):=fun(D,F,k,O,M,N,_)=>(ag D F).bind fun Y=>bif decide (k<(Y.1.2.2.2.2.2.2.2.length:Int)) then(ag D F).bind fun Z=>(ag Z.1.2.2.2.2.2.2.2 k).bind fun ah=>(zL N ah.2).bind fun U=>J (aa .i64 (k+1))<|some (.inl (D,F,(k+1),O,M,U,())) else some (.inr (D,F,O,M,N,()))
def Lj:Lp (bK×Int×bK×pP) (bK×pP):=fun(D,i,F,M,N,_)=>bif decide (i<(D.length:Int)) then(ag D i).bind fun ar=>(zL N ar.1.2.2.2.2.2.2.1).bind fun Y=>(ab E4 (D,i,0,F,M,Y,())).bind fun(U,O,Z,ah,an,_)=>J (aa .i64 (O+1))<|some (.inl (U,(O+1),Z,ah,an,())) else some (.inr (F,M,N,()))
def FR (D:bK) (roots:aK):Option mY:=(zL [] roots).bind fun asked=>(ab Lj (D,0,D,roots,asked,())).bind fun(F,J,M,_)=>some (F,J,M)
theorem ai {c:Prop} {_:Decidable c} {R:Type} {k:Option R} (h:c):J c k=k:=if_pos h
theorem dY {p:Prop} (h:p) (i:Decidable p): @decide p i=true:=by grind
theorem dN {p:Prop} (h: ¬p) (i:Decidable p): @decide p i=false:=by grind
theorem Gi {R:Type} {k:Option R}:only true k=k:=rfl
theorem aw {n:Nat} {R:Type} {k:Option R} (h:n<=4611686018427387904):J (aa .i64 (n:Int)) k=k:=ai (aqH h)
theorem bd {n:Int} (h: -9223372036854775808<=n/\n<=9223372036854775807):aa .i64 n:=by rw[Ti];exact h
theorem rN {V R:Type} {f:V->Option (V⊕R)} (st:Nat->V) (out:Nat->R) (p:Nat->Bool) (x:List UInt8)
  (h1: ∀k,k<x.length->p (dE x k)=false->f (st k)=some (.inl (st (k+1))))
  (h2: ∀k,k<=x.length->(k<x.length->p (dE x k)=true)->f (st k)=some (.inr (out k))): ∀k,k<=x.length->ab f (st k)=some (out (ak p x k)):=by
 have: ∀n k,x.length - k=n->k<=x.length->ab f (st k)=some (out (ak p x k)):=by
  intro n
  induction n with
  |zero=>intro k F hk;rw[bJ,h2 k hk (fun h=>by omega),RQ _ _ _ (by omega)]
  |succ n J=>
   intro k F hk;have D:k<x.length:=by omega
   rw[bJ];cases hp:p (dE x k) with
   |true=>rw[h2 k hk (fun _=>hp),Fu _ _ _ D hp]
   |false=>rw[h1 k D hp];show ab f (st (k+1))=_;rw[J (k+1) (by omega) (by omega),EV _ _ _ D hp]
 grind
theorem fC {l:List UInt8} {k:Nat} (h:k<l.length):(l[k]).toNat=dE l k:=(wE l k h).symm
theorem aH (k:Nat):((k:Int)+1)=((k+1:Nat):Int):=rfl
theorem A1 {l:List UInt8} {k:Nat} (h:k<l.length) {R:Type} (f:UInt8->Option R):(ag l (k:Int)).bind f=f l[k]:=by rw[abp h];rfl
theorem ais (x:List UInt8) (M:x.length<=20000) (D a b c d e:Int):ab Ej (x,D,0,a,b,c,d,e,())=some (x,D,(ak me x 0:Int),a,b,c,d,e,()):=by
 refine rN (fun k=>(x,D,(k:Int),a,b,c,d,e,())) (fun k=>(x,D,(k:Int),a,b,c,d,e,())) me x (fun k hk hp=>?_) (fun k hk hp=>?_) 0 (ae6 _)
 · have J: ¬(((x[k]).toNat)=35):=by
     rw[fC hk];unfold me at hp;grind
   simp (disch:=omega) only[K0,Ej]
 · by_cases F:k<x.length
   · have J:((x[k]).toNat)=35:=by
       have:=hp F;rw[fC F];unfold me at this;have:dE x k=35:=by grind
       omega
     simp (disch:=omega) only[K0,Ej]
   · grind[Ej]
theorem qV {x:List UInt8} {e:Nat} (he:e<=x.length):(x.take e).length=e:=by grind
theorem vg {x:List UInt8} {e k:Nat} (h:k<e):dE (x.take e) k=dE x k:=apK x e k h
theorem aaR {n:Nat} (h:bA n=false): ¬((n:Int)=32)/\ ¬((n:Int)=9):=by grind[bA]
theorem Zm {n:Nat} (h:bA n=true):(n:Int)=32\/(¬((n:Int)=32)/\(n:Int)=9):=by grind[bA]
theorem ack {n:Nat} (h:iO n=false): ¬((n:Int)<33)/\ ¬(126<(n:Int)):=by grind[iO]
theorem abJ {n:Nat} (h:iO n=true):(n:Int)<33\/(¬((n:Int)<33)/\126<(n:Int)):=by grind[iO]
theorem air (x:List UInt8) (N:x.length<=20000) (e:Nat) (he:e<=x.length) (no J a b c d F:Int) (ws:List (List UInt8)) (cs:List Int) (k:Nat) (hk:k<=e):
  ab zl (x,no,(e:Int),J,(k:Int),a,b,c,d,F,ws,cs,())=some (x,no,(e:Int),J,(ak bA (x.take e) k:Int),a,b,c,d,F,ws,cs,()):=by
 refine rN (fun k=>(x,no,(e:Int),J,(k:Int),a,b,c,d,F,ws,cs,())) (fun k=>(x,no,(e:Int),J,(k:Int),a,b,c,d,F,ws,cs,())) bA (x.take e) (fun k hk hp=>?_) (fun k hk hp=>?_) k (by grind)
 · rw[qV he] at hk;have D:k<x.length:=by omega
   rw[vg hk] at hp;obtain⟨h1,h2⟩:=aaR hp;rw[<-fC D] at h1 h2;simp (disch:=omega) only[K0,zl]
 · rw[qV he] at hk hp;by_cases D:k<e
   · have M:k<x.length:=by omega
     have hp:=hp D;rw[vg D] at hp;rcases Zm hp with h1 |⟨h1,h2⟩
     · rw[<-fC M] at h1;simp (disch:=omega) only[K0,zl]
     · rw[<-fC M] at h1 h2;simp (disch:=omega) only[K0,zl]
   · grind[zl]
theorem aiq (x:List UInt8) (O:x.length<=20000) (e:Nat) (he:e<=x.length) (no J M a b c d F:Int) (ws:List (List UInt8)) (cs:List Int) (k:Nat) (hk:k<=e):
  ab zk (x,no,J,M,(e:Int),(k:Int),a,b,c,d,F,ws,cs,())=some (if ak iO (x.take e) k<e then Sum.inr (0,1,no,((ak iO (x.take e) k+1:Nat):Int),()) else Sum.inl (x,no,J,M,(e:Int),a,b,c,d,F,ws,cs,())):=by
 refine rN (fun k=>(x,no,J,M,(e:Int),(k:Int),a,b,c,d,F,ws,cs,())) (fun k=>if k<e then Sum.inr (0,1,no,((k+1:Nat):Int),()) else Sum.inl (x,no,J,M,(e:Int),a,b,c,d,F,ws,cs,())) iO (x.take e) (fun k hk hp=>?_) (fun k hk hp=>?_) k (by grind)
 · rw[qV he] at hk;have D:k<x.length:=by omega
   rw[vg hk] at hp;obtain⟨h1,h2⟩:=ack hp;rw[<-fC D] at h1 h2;simp (disch:=omega) only[K0,zk]
 · rw[qV he] at hk hp;by_cases D:k<e
   · have N:k<x.length:=by omega
     have hp:=hp D;rw[vg D] at hp;rw[if_pos D];rcases abJ hp with h1 |⟨h1,h2⟩
     · rw[<-fC N] at h1;simp (disch:=omega) only[K0,zk]
     · rw[<-fC N] at h1 h2;simp (disch:=omega) only[K0,zk]
   · grind[zk]
def ig (cs:List Nat):List Int:=cs.map fun(c:Nat)=>(c:Int)
theorem Rc (cs:List Nat) (k:Nat):ig (cs++[k])=ig cs++[(k:Int)]:=by simp[ig]
theorem LG (cs:List Nat):(ig cs).length=cs.length:=by simp [ig]
def wR (no:Int):NP->(Int×Int×Int×Int×Int×List (List UInt8)×List Int×Unit)⊕(Int×Int×Int×Int×Unit)
 |.ok ws cs=>.inl (0,0,0,0,no,ws,ig cs,())
 |.bad c D=>.inr (0,(c:Int),no,(D:Int),())
theorem aip (x:List UInt8) (hx:x.length<=20000) (e:Nat) (he:e<=x.length) (no:Int): ∀(n k:Nat) (ws:List (List UInt8)) (cs:List Nat),e - k<=n->k<=e->ws.length=cs.length->ws.length<=20->
  ab rL (x,no,(e:Int),(k:Int),0,0,0,0,no,ws,ig cs,())=some (wR no (scan (x.take e) k ws cs)):=by
 intro n
 induction n with
 |zero=>
  intro k ws cs hn hk hw U;have ar:k=e:=by omega
  rw[bJ,v8 _ _ _ _ (by rw[qV he];omega)]
  simp (disch:=omega) only[K0,rL,wR]
 |succ n ih=>
  intro k ws cs hn hk hw U;by_cases O:k<e
  · have J:k<x.length:=by omega
    have F:k<(x.take e).length:=by rw[qV he];exact O
    rw[bJ];cases D:bA (dE (x.take e) k) with
    |true=>
     have e1:rL (x,no,e,k,0,0,0,0,no,ws,ig cs,())=some (.inl (x,no,e,(k+1),0,0,0,0,no,ws,ig cs,())):=by
      rw[vg O] at D;rcases Zm D with h1 |⟨h1,h2⟩
      · rw[<-fC J] at h1;simp (disch:=omega) only[K0,rL,A1 J]
      · rw[<-fC J] at h1 h2;simp (disch:=omega) only[K0,rL,A1 J]
     rw[e1,Ex _ _ _ _ F D];exact ih (k+1) ws cs (by omega) (by omega) hw U
    |false=>
     have Y:=D;rw[vg O] at Y;obtain⟨h1,h2⟩:=aaR Y;rw[<-fC J] at h1 h2;have az:=Aa _ _ F D;have ah:=rV bA (x.take e) k (Nat.le_of_lt F);rw[qV he] at ah;simp only[rL,dY (show(k:Int)<e by omega),cond_true,cond_false,A1 J,dN h1,dN h2,air x hx e he no k 0 0 0 0 no ws (ig cs) k hk,ae2]
     by_cases aE:20<=ws.length
     · simp (disch:=omega) only[K0];rw[vW _ _ _ _ F D (.inl (by omega))];rfl
     · simp only[dN (show¬20<=(ws.length:Int) by omega),cond_false]
       have av:(ak bA (x.take e) k) - k=((ak bA (x.take e) k - k:Nat):Int):=by omega
       rw[av,aw (by omega)]
       by_cases an:80<ak bA (x.take e) k - k
       · simp (disch:=omega) only[K0];rw[vW _ _ _ _ F D (.inr an)];rfl
       · simp only[dN (show¬80<((ak bA (x.take e) k - k:Nat):Int) by omega),cond_false,aiq x hx (ak bA (x.take e) k) (by omega) no e k 0 0 0 0 no ws (ig cs) k (by omega),ae2]
         have Z: ¬(ws.length=20\/80<ak bA (x.take e) k - k):=by omega
         have M:(x.take e).take (ak bA (x.take e) k)=x.take (ak bA (x.take e) k):=by rw[List.take_take];congr 1;omega
         by_cases N:ak iO (x.take (ak bA (x.take e) k)) k<ak bA (x.take e) k
         · rw[if_pos N,Fy _ _ _ _ F D Z (M▸N),M];rfl
         · rw[if_neg N,E1 _ _ _ _ F D Z (M▸N),M];simp only[];rw[ai (show(0:Int)<=k/\k<=((ak bA (x.take e) k):Int)/\((ak bA (x.take e) k):Int)<=x.length by omega)]
           rw[ai (by simp (disch:=omega) only[K0];omega)]
           simp (disch:=omega) only[K0];rw[ai (by simp (disch:=omega) only[K0,LG];omega)]
           have:=ih (ak bA (x.take e) k) (ws++[(x.take (ak bA (x.take e) k)).drop k]) (cs++[k+1]) (by omega) ah (by simp;omega) (by simp;omega)
           rw[Rc] at this;exact this
  · have ar:k=e:=by omega
    rw[bJ,v8 _ _ _ _ (by rw[qV he];omega)]
    simp (disch:=omega) only[K0,rL,wR]
def abW (no:Int):NP->(Int×List (List UInt8)×List Int)×Int×Int×Int
 |.ok ws cs=>((no,ws,ig cs),(0,0,0))
 |.bad c D=>((0,[],[]),((c:Int),no,(D:Int)))
theorem W5 (x:List UInt8) (D:x.length<=20000) (no:Int):zX x no=some (abW no (nW x)):=by
 have he:ak me x 0<=x.length:=rV _ _ _ (ae6 _);have F:ab rL (x,no,(ak me x 0),0,0,0,0,0,no,[],[],())=some (wR no (scan (x.take (ak me x 0)) 0 [] [])):=aip x D (ak me x 0) he no (ak me x 0) 0 [] [] (by simp) (ae6 _) rfl (by simp)
 simp[zX,ais x D no,F];unfold nW bare;cases scan (x.take (ak me x 0)) 0 [] []<;>rfl
theorem J2 (n:Nat):En (n:Int)=some (bA n):=by
 unfold En;by_cases h:n=32
 · subst h;rfl
 · simp (disch:=omega) only[K0];simp[Option.some.injEq];by_cases D:n=9
   · subst D;rfl
   · simp (disch:=omega) only[K0];simp[bA,h,D]
theorem ahQ (t:List UInt8) (M:t.length<=20000) (no F a b c d D:Int) (ws:List (List UInt8)) (cs:List Int) (k:Nat) (hk:k<=t.length):
  ab DP (no,t,F,(k:Int),a,b,c,d,D,ws,cs,())=some (no,t,F,(ak bA t k:Int),a,b,c,d,D,ws,cs,()):=by
 refine rN (fun k=>(no,t,F,(k:Int),a,b,c,d,D,ws,cs,())) (fun k=>(no,t,F,(k:Int),a,b,c,d,D,ws,cs,())) bA t (fun k hk hp=>?_) (fun k hk hp=>?_) k hk
 · simp (disch:=omega) only[K0,DP,fC hk,J2,hp]
 · by_cases J:k<t.length
   · simp (disch:=omega) only[K0,DP,fC J,J2,hp J]
   · grind[DP]
theorem ahP (t:List UInt8) (N:t.length<=20000) (e:Nat) (he:e<=t.length) (no J a b c d F:Int) (ws:List (List UInt8)) (cs:List Int) (k:Nat) (hk:k<=e):
  ab yX (no,t,J,(e:Int),(k:Int),a,b,c,d,F,ws,cs,())=some (if ak iO (t.take e) k<e then Sum.inr (0,1,no,((ak iO (t.take e) k+1:Nat):Int),()) else Sum.inl (no,t,J,(e:Int),a,b,c,d,F,ws,cs,())):=by
 refine rN (fun k=>(no,t,J,(e:Int),(k:Int),a,b,c,d,F,ws,cs,())) (fun k=>if k<e then Sum.inr (0,1,no,((k+1:Nat):Int),()) else Sum.inl (no,t,J,(e:Int),a,b,c,d,F,ws,cs,())) iO (t.take e) (fun k hk hp=>?_) (fun k hk hp=>?_) k (by grind)
 · rw[qV he] at hk;have D:k<t.length:=by omega
   rw[vg hk] at hp;obtain⟨h1,h2⟩:=ack hp;rw[<-fC D] at h1 h2;simp (disch:=omega) only[K0,yX]
 · rw[qV he] at hk hp;by_cases D:k<e
   · have M:k<t.length:=by omega
     have hp:=hp D;rw[vg D] at hp;rw[if_pos D];rcases abJ hp with h1 |⟨h1,h2⟩
     · rw[<-fC M] at h1;simp (disch:=omega) only[K0,yX]
     · rw[<-fC M] at h1 h2;simp (disch:=omega) only[K0,yX]
   · grind[yX]
theorem ahO (t:List UInt8) (N:t.length<=20000) (no:Int): ∀(n k:Nat) (ws:List (List UInt8)) (cs:List Nat),t.length - k<=n->k<=t.length->ws.length=cs.length->ws.length<=20->
  ab vL (no,t,(k:Int),0,0,0,0,no,ws,ig cs,())=some (wR no (scan t k ws cs)):=by
 intro n
 induction n with
 |zero=>
  intro k ws cs Z hk hw U;rw[bJ,v8 _ _ _ _ (by omega)]
  grind[vL,wR]
 |succ n ih=>
  intro k ws cs Z hk hw U;by_cases D:k<t.length
  · rw[bJ];cases F:bA (dE t k) with
    |true=>
     have e1:vL (no,t,k,0,0,0,0,no,ws,ig cs,())=some (.inl (no,t,(k+1),0,0,0,0,no,ws,ig cs,())):=by simp (disch:=omega) only[K0,vL,fC D,J2,F]
     rw[Ex _ _ _ _ D F];grind
    |false=>
     have ar:=Aa _ _ D F;have O:=rV bA t k hk;simp[vL,dY (show(k:Int)<t.length by omega),cond_false,A1 D,fC D,J2,F,ahQ t N no k 0 0 0 0 no ws (ig cs) k hk]
     by_cases an:ws.length=20
     · simp (disch:=omega) only[K0];rw[vW _ _ _ _ D F (.inl an)];rfl
     · simp[dN (show¬(ws.length:Int)=20 by omega)]
       have ah:(ak bA t k) - k=((ak bA t k - k:Nat):Int):=by omega
       rw[ah,aw (by omega)]
       by_cases Y:80<ak bA t k - k
       · simp (disch:=omega) only[K0];rw[vW _ _ _ _ D F (.inr Y)];rfl
       · simp (disch:=omega) only[K0,ahP t N (ak bA t k) O no k 0 0 0 0 no ws (ig cs) k (by omega)]
         have M: ¬(ws.length=20\/80<ak bA t k - k):=by omega
         by_cases J:ak iO (t.take (ak bA t k)) k<ak bA t k
         · rw[if_pos J,Fy _ _ _ _ D F M J];rfl
         · rw[E1 _ _ _ _ D F M J];simp[];simp (disch:=omega) only[K0];simp (disch:=omega) only[K0,LG,Rc];have:=ih (ak bA t k) (ws++[(t.take (ak bA t k)).drop k]) (cs++[k+1]) (by omega) O (by grind) (by grind)
           grind[Rc]
  · grind
theorem asi:gA 35=me:=rfl
theorem asj:gA 10=dw:=rfl
theorem asq (l:List UInt8) (h:l.length<=20000):kV l TY=some (bare l,l.drop (ak me l 0+1),decide (ak me l 0<l.length)):=by unfold kV TY;simp only[];rw[if_pos (by omega)];unfold mW;rw[asi];rfl
theorem asr (l:List UInt8) (h:l.length<=20000):kV l TZ=some (l.take (ak dw l 0),l.drop (ak dw l 0+1),decide (ak dw l 0<l.length)):=by unfold kV TZ;simp only[];rw[if_pos (by omega)];unfold mW;rw[asj]
theorem WD (no:Int) (x:List UInt8) (J:x.length<=20000):zn no x=some (abW no (nW x)):=by
 have F:(bare x).length<=20000:=by grind[bare]
 have D:ab vL (no,bare x,0,0,0,0,0,no,[],[],())=some (wR no (scan (bare x) 0 [] [])):=ahO (bare x) F no (bare x).length 0 [] [] (by simp) (ae6 _) rfl (by simp)
 simp[zn,asq x J,D];unfold nW;cases scan (bare x) 0 [] []<;>rfl
theorem Rj (t:List UInt8) (n:Nat): ∀(k:Nat) (ws:List (List UInt8)) (cs:List Nat) (c J:Nat),t.length - k<=n->scan t k ws cs=.bad c J->c=1\/c=2:=by
 induction n with
 |zero=>intro k ws cs c J M h;rw[v8 _ _ _ _ (by omega)] at h;grind
 |succ n N=>
  intro k ws cs c J M h;by_cases F:k<t.length
  · cases D:bA (dE t k) with
    |true=>rw[Ex _ _ _ _ F D] at h;grind
    |false=>
     by_cases h1:ws.length=20\/80<ak bA t k - k
     · rw[vW _ _ _ _ F D h1] at h;grind
     · by_cases h2:ak iO (t.take (ak bA t k)) k<ak bA t k
       · rw[Fy _ _ _ _ F D h1 h2] at h;grind
       · rw[E1 _ _ _ _ F D h1 h2] at h;have:=Aa _ _ F D;grind
  · grind
def ur (d:po):Int×List (List UInt8)×List Int:=((d.no:Int),d.ws,ig d.cs)
def uk:UK->(Int×Int×Int×(List (Int×List (List UInt8)×List Int))×Unit)⊕(Int×Int×Int×Unit)
 |.ok ls=>.inl (0,0,0,ls.map ur,())
 |.bad c l D=>.inr ((c:Int),(l:Int),(D:Int),())
theorem aia: ∀(n:Nat) (rest:List UInt8) (no:Nat) (out:List po),rest.length<=n->rest.length<=20000->1<=no->no<=801->out.length<no->
  ab zc (800,(no:Int),rest,0,0,0,out.map ur,())=some (uk (gI 800 rest no out)):=by
 intro n
 induction n with
 |zero=>
  intro rest no out Z N h1 Y ho;have e:rest=[]:=aw2.1 (by omega)
  subst e;rw[bJ,E2];simp[zc,uk]
 |succ n O=>
  intro rest no out Z N h1 Y ho;by_cases e:rest=[]
  · subst e;rw[bJ,E2];simp[zc,uk]
  · rw[bJ];simp (disch:=omega) only[zc];by_cases hm:800<no
    · rw[KZ _ _ _ _ e hm];simp (disch:=omega) only[K0];rfl
    · have M:(rest.take (ak dw rest 0)).length<=20000:=by rw[at6];omega
      simp (disch:=omega) only[asr rest N];cases hs:nW (rest.take (ak dw rest 0)) with
      |bad c U=>
       rw[Li _ _ _ _ e hm hs];have hc: ¬(c=0):=by have:=Rj _ _ _ _ _ _ _ (ae5 _) hs;omega
       have D:zn no (rest.take (ak dw rest 0))=some ((0,[],[]),((c:Int),(no:Int),(U:Int))):=by rw[WD _ _ M,hs];rfl
       simp (disch:=omega) only[K0,D];rfl
      |ok ws cs=>
       rw[LQ _ _ _ _ e hm hs];have F:(rest.drop (ak dw rest 0+1)).length<=n:=by have:0<rest.length:=av5.2 e;rw[au4];omega
       have J:(rest.drop (ak dw rest 0+1)).length<=20000:=by rw[au4];omega
       have D:zn no (rest.take (ak dw rest 0))=some (((no:Int),ws,ig cs),(0,0,0)):=by rw[WD _ _ M,hs];rfl
       simp (disch:=omega) only[K0,D];by_cases hw:ws.length=0
       · simp only[dN (show¬0<(ws.length:Int) by omega)]
         rw[if_pos hw];exact O _ (no+1) out F J (by simp) (by omega) (by omega)
       · simp only[dY (show(0:Int)<ws.length by omega)]
         rw[ai (by grind),if_neg hw]
         have:=O (rest.drop (ak dw rest 0+1)) (no+1) (out++[⟨no,ws,cs⟩]) F J (by simp) (by omega) (by grind)
         rw[at4] at this;exact this
def ar8:UK->(List (Int×List (List UInt8)×List Int))×Int×Int×Int
 |.ok ls=>(ls.map ur,(0,0,0))
 |.bad c l D=>([],((c:Int),(l:Int),(D:Int)))
def iI (s:List UInt8):(List (Int×List (List UInt8)×List Int))×Int×Int×Int:=if 20000<s.length then([],(2,0,0)) else ar8 (gI 800 s 1 [])
theorem yY (s:List UInt8):zD s=some (iI s):=by
 unfold zD iI;by_cases h:20000<s.length
 · grind
 · simp (disch:=omega) only[K0];have h1:ab zc (800,1,s,0,0,0,[],())=some (uk (gI 800 s 1 [])):=aia s.length s 1 [] (ae5 _) (by omega) (by simp) (by simp) (by simp)
   simp (disch:=omega) only[Q2,h1];cases gI 800 s 1 []<;>rfl
theorem amF (p:Nat->Bool) (l:List UInt8) (k:Nat):ak p l k=k+ak p (l.drop k) 0:=by simp[ak]
theorem ahx (x:List UInt8) (J:x.length<=20000) (m no at_ a b c:Int) (out:List (Int×List (List UInt8)×List Int)) (k:Nat) (hk:k<=x.length):
  ab DG (x,m,no,at_,(k:Int),a,b,c,out,())=some (x,m,no,at_,(ak dw x k:Int),a,b,c,out,()):=by
 refine rN (fun k=>(x,m,no,at_,(k:Int),a,b,c,out,())) (fun k=>(x,m,no,at_,(k:Int),a,b,c,out,())) dw x (fun k hk hp=>?_) (fun k hk hp=>?_) k hk
 · have F: ¬(((x[k]).toNat)=10):=by
     rw[fC hk];unfold dw at hp;grind
   simp (disch:=omega) only[K0,DG]
 · by_cases D:k<x.length
   · have F:((x[k]).toNat)=10:=by
       have:=hp D;rw[fC D];unfold dw at this;have:dE x k=10:=by grind
       omega
     simp (disch:=omega) only[K0,DG]
   · grind[DG]
theorem ahw (x:List UInt8) (hx:x.length<=20000): ∀(n k:Nat) (no:Nat) (out:List po),x.length - k<=n->k<=x.length+1->1<=no->no<=801->out.length<no->
  ab yQ (x,800,(no:Int),(k:Int),0,0,0,out.map ur,())=some (uk (gI 800 (x.drop k) no out)):=by
 have fin: ∀(k no:Nat) out,¬k<x.length->ab yQ (x,800,no,k,0,0,0,out.map ur,())=some (uk (gI 800 (x.drop k) no out)):=fun k no out h=>by
  rw[bJ,aw4 (by omega),E2]
  simp (disch:=omega) only[K0,yQ,uk]
 intro n
 induction n with
 |zero=>intro k no out Y hk h1 N Z;exact fin k no out (by omega)
 |succ n J=>
  intro k no out Y hk h1 N Z;by_cases U:k<x.length
  · have e:x.drop k≠[]:=by intro h;have:=congrArg List.length h;rw[au4] at this;simp at this;omega
    have hle:=rV dw x k (by omega)
    have an:=FP dw x k;have hd:=amF dw x k;have ah:(x.take (ak dw x k)).drop k=(x.drop k).take (ak dw (x.drop k) 0):=by rw[List.drop_take];congr 1;omega
    have O:x.drop (ak dw x k+1)=(x.drop k).drop (ak dw (x.drop k) 0+1):=by rw[List.drop_drop];congr 1;omega
    rw[bJ];simp only[yQ,dY (show(k:Int)<x.length by omega),cond_true,ahx x hx _ _ _ _ _ _ _ k (by omega),ae2]
    by_cases hm:800<no
    · rw[KZ _ _ _ _ e hm];simp (disch:=omega) only[K0];rfl
    · simp only[dN (show¬800<no by omega),cond_false,as1]
      simp (disch:=omega) only[K0];have D:((x.take (ak dw x k)).drop k).length<=20000:=by rw[au4,at6];omega
      rw[ah] at D⊢;cases hs:nW ((x.drop k).take (ak dw (x.drop k) 0)) with
      |bad c M=>
       rw[Li _ _ _ _ e hm hs];have hc: ¬(c=0):=by have:=Rj _ _ _ _ _ _ _ (ae5 _) hs;omega
       have F:zX ((x.drop k).take (ak dw (x.drop k) 0)) no=some ((0,[],[]),((c:Int),(no:Int),(M:Int))):=by rw[W5 _ D,hs];rfl
       simp (disch:=omega) only[K0,F];rfl
      |ok ws cs=>
       rw[LQ _ _ _ _ e hm hs,<-O];have F:zX ((x.drop k).take (ak dw (x.drop k) 0)) no=some (((no:Int),ws,ig cs),(0,0,0)):=by rw[W5 _ D,hs];rfl
       simp (disch:=omega) only[K0,F];by_cases hw:ws.length=0
       · simp only[dN (show¬0<(ws.length:Int) by omega),cond_false,aH,aw (show no+1<=4611686018427387904 by omega),aw (show ak dw x k+1<=4611686018427387904 by omega)]
         rw[if_pos hw];exact J (ak dw x k+1) (no+1) out (by omega) (by omega) (by simp) (by omega) (by omega)
       · simp only[dY (show(0:Int)<ws.length by omega),cond_true,aH,aw (show no+1<=4611686018427387904 by omega),aw (show ak dw x k+1<=4611686018427387904 by omega)]
         rw[ai (by simp (disch:=omega) only[K0,ae4];omega),if_neg hw]
         have:=J (ak dw x k+1) (no+1) (out++[⟨no,ws,cs⟩]) (by omega) (by omega) (by omega) (by omega) (by simp;omega)
         rw[at4] at this;exact this
  · exact fin k no out U
theorem zm (s:List UInt8):Af s=some (iI s):=by
 unfold Af iI;by_cases h:20000<s.length
 · grind
 · simp (disch:=omega) only[K0];have h1:ab yQ (s,800,1,0,0,0,0,[],())=some (uk (gI 800 s 1 [])):=ahw s (by omega) s.length 0 1 [] (by simp) (by simp) (by simp) (by simp) (by simp)
   simp (disch:=omega) only[Qi,h1];cases gI 800 s 1 []<;>rfl
theorem kg {V R α:Type} {f:V->Option (V⊕R)} (l:List α) (p:α->Bool) (st:Nat->V) (a b:R)
  (h1: ∀k (h:k<l.length),p l[k]=true->f (st k)=some (.inl (st (k+1))))
  (h2: ∀k (h:k<l.length),p l[k]=false->f (st k)=some (.inr b))
  (J:f (st l.length)=some (.inr a)):ab f (st 0)=some (if l.all p=true then a else b):=by
 have: ∀n k,l.length - k=n->k<=l.length->ab f (st k)=some (if(l.drop k).all p=true then a else b):=by
  intro n
  induction n with
  |zero=>
   intro k F hk;have e:k=l.length:=by omega
   simp_all[bJ]
  |succ n M=>
   intro k F hk;have D:k<l.length:=by omega
   rw[bJ,at2 D,av4];cases hp:p l[k] with
   |true=>grind
   |false=>grind
 grind
theorem au {α R:Type} {l:List α} {k:Nat} (h:k<l.length) (f:α->Option R):(ag l (k:Int)).bind f=f l[k]:=by rw[abp h];rfl
theorem acG {α R:Type} {l:List α} (h:0<l.length) (f:α->Option R):(ag l 0).bind f=f l[0]:=au (k:=0) h f
def gq (c:UInt8):Bool:=bQ c||(decide (97<=c.toNat)&&decide (c.toNat<=122))||decide (c.toNat=45)
theorem YJ (c:UInt8):gq c=true<->((48<=c.toNat/\c.toNat<=57)\/(97<=c.toNat/\c.toNat<=122)\/c.toNat=45):=by grind[gq,bQ]
theorem aaF (c:UInt8):bQ c=true<->(48<=c.toNat/\c.toNat<=57):=by simp[bQ]
theorem LX {c:UInt8} (h:gq c=true):((48<=c.toNat/\c.toNat<=57)\/(97<=c.toNat/\c.toNat<=122)\/c.toNat=45):=(YJ c).1 h
theorem Mi {c:UInt8} (h:gq c=false): ¬((48<=c.toNat/\c.toNat<=57)\/(97<=c.toNat/\c.toNat<=122)\/c.toNat=45):=fun g=>by rw[(YJ c).2 g] at h;cases h
theorem pa {c:UInt8} (h:bQ c=true):(48<=c.toNat/\c.toNat<=57):=(aaF c).1 h
theorem TQ {c:UInt8} (h:bQ c=false): ¬(48<=c.toNat/\c.toNat<=57):=fun g=>by rw[(aaF c).2 g] at h;cases h
theorem ahq (s:List UInt8) (hs:s.length<=20000):ab DD (s,(s.length:Int),0,())=some (if s.all gq=true then .inl (s,()) else .inr ()):=by
 refine kg s gq (fun k=>(s,(s.length:Int),(k:Int),())) _ _ (fun k h hp=>?_) (fun k h hp=>?_) ?_
 · have hp:=LX hp;simp (disch:=omega) only[K0,DD];grind
 · have hp:=Mi hp;simp (disch:=omega) only[K0,DD];grind
 · simp[DD]
theorem Wt (s:List UInt8) (hs:s.length<=20000):Kd s=some (gr s):=by
 unfold Kd;by_cases h0:s=[]
 · subst h0;rfl
 · have O:=av5.2 h0;have he:s.isEmpty=false:=by cases s with|nil=>exact absurd rfl h0 |cons=>rfl
   rw[dN h0];by_cases M:8<s.length
   · simp (disch:=omega) only[K0];unfold gr;simp (disch:=omega) only[K0]
   · simp (disch:=omega) only[K0,ahq s hs];have D:gr s=((s.all gq)&&(!(s.all bQ)||decide (s.length=1)||decide (s.head?≠some 48))):=by unfold gr;rw[he];simp (disch:=omega) only[K0];rfl
     rw[D];cases hp:s.all gq with
     |false=>rfl
     |true=>
      simp only[if_true,tv,if_pos (show s.length<=1000000000 by omega),au1]
      cases N:s.all bQ with
      |false=>rfl
      |true=>
       simp (disch:=omega) only[K0];by_cases h1:s.length=1
       · grind
       · rw[dN h1];simp (disch:=omega) only[K0];have F:s.head?=some s[0]:=by cases s with|nil=>exact absurd rfl h0 |cons a t=>rfl
         rw[F];by_cases J:s[0]=48
         · simp_all
         · have: ¬((s[0]).toNat:Int)=48:=fun e=>J (by apply UInt8.toNat_inj.1;show(s[0]).toNat=48;omega)
           rw[dN this,dY (by grind)];rfl
theorem Qa (s:List UInt8) (hs:s.length<=20000):zz s=some (s.all bQ):=by
 have h:ab y9 (s,0,())=some (if s.all bQ=true then .inl () else .inr ()):=by
  refine kg s bQ (fun k=>(s,(k:Int),())) _ _ (fun k h hp=>?_) (fun k h hp=>?_) ?_
  · have hp:=pa hp;simp (disch:=omega) only[K0,y9]
  · have hp:=TQ hp;by_cases c1:((s[k]).toNat)<48
    · simp (disch:=omega) only[K0,y9]
    · simp (disch:=omega) only[K0,y9]
  · simp[y9]
 grind[zz]
theorem aiT (s:List UInt8) (hs:s.length<=20000):ab EH (s,0,())=some (if s.all gq=true then .inl () else .inr ()):=by
 refine kg s gq (fun k=>(s,(k:Int),())) _ _ (fun k h hp=>?_) (fun k h hp=>?_) ?_
 · have hp:=LX hp;simp (disch:=omega) only[K0,EH];grind
 · have hp:=Mi hp;simp (disch:=omega) only[K0,EH];grind
 · simp[EH]
theorem Xo (s:List UInt8) (hs:s.length<=20000):LS s=some (gr s):=by
 unfold LS;by_cases h0:s=[]
 · subst h0;rfl
 · have N:=av5.2 h0;have he:s.isEmpty=false:=by cases s with|nil=>exact absurd rfl h0 |cons=>rfl
   rw[dN h0];by_cases M:8<s.length
   · simp (disch:=omega) only[K0];unfold gr;simp (disch:=omega) only[K0]
   · have F:gr s=((s.all gq)&&(!(s.all bQ)||decide (s.length=1)||decide (s.head?≠some 48))):=by
       unfold gr;rw[he];simp (disch:=omega) only[K0];rfl
     have fin:(match(if s.all gq=true then(Sum.inl ()) else .inr ()) with|.inl _=>some true |.inr _=>some false)=some (s.all gq):=by grind
     simp (disch:=omega) only[K0,aiT s hs];rw[F];by_cases h1:1<s.length
     · rw[dY (show(1:Int)<s.length by omega)]
       simp only[cond_true];have J:s.head?=some s[0]:=by cases s with|nil=>exact absurd rfl h0 |cons a t=>rfl
       simp (disch:=omega) only[K0,J];by_cases D:s[0]=48
       · rw[D,dN (show¬some (48:UInt8)≠some 48 from fun e=>e rfl)]
         simp only[dY (show(((48:UInt8).toNat:Nat):Int)=48 from rfl),Qa s hs]
         grind
       · have: ¬((s[0]).toNat:Int)=48:=fun e=>D (by apply UInt8.toNat_inj.1;show(s[0]).toNat=48;omega)
         rw[dN this,dY (by grind),Bool.or_true,ax6]
         simp only[cond_false];exact fin
     · grind
theorem mE (c:UInt8) (l:List UInt8):aB c l≠[]:=by
 cases l with
 |nil=>simp[aB]
 |cons b t=>grind[aB]
theorem mA (c:UInt8) (l:List UInt8):(∀p∈aB c l,p.length<=l.length)/\(aB c l).length<=l.length+1:=by
 induction l with
 |nil=>simp[aB]
 |cons b t D=>grind[aB]
theorem Wz (s:List UInt8) (hs:s.length<=20000):D6 s=some (preB s):=by
 have F:strings_Split s gp=some (aB 46 s):=by unfold strings_Split gp;grind
 obtain⟨D,M⟩:=mA 46 s;unfold D6;simp[F];by_cases J:4<(aB 46 s).length
 · simp (disch:=omega) only[K0];grind[preB]
 · simp (disch:=omega) only[K0]
   have h:ab DJ (aB 46 s,((aB 46 s).length),0,())=some (if(aB 46 s).all gr=true then .inl () else .inr ()):=by
    refine kg (aB 46 s) gr (fun k=>(aB 46 s,((aB 46 s).length:Int),(k:Int),())) _ _ (fun k h hp=>?_) (fun k h hp=>?_) ?_
    · have:=D _ (ae3 h);simp (disch:=omega) only[K0,DJ,Wt _ (show((aB 46 s)[k]).length<=20000 by omega),hp]
    · have:=D _ (ae3 h);simp (disch:=omega) only[K0,DJ,Wt _ (show((aB 46 s)[k]).length<=20000 by omega),hp]
    · simp[DJ]
   simp[preB];grind
def jl (n:Nat) (c:UInt8):Nat:=n*10+(c.toNat - 48)
def ck (l:List UInt8):Nat:=l.foldl jl 0
theorem aac {V R:Type} {f:V->Option (V⊕R)} (s:List UInt8) (st:Nat->Nat->V) (a:Nat->R) (b:R)
  (h1: ∀k (h:k<s.length) (n:Nat),n<10 ^k->bQ s[k]=true->f (st k n)=some (.inl (st (k+1) (jl n s[k]))))
  (h2: ∀k (h:k<s.length) (n:Nat),n<10 ^k->bQ s[k]=false->f (st k n)=some (.inr b))
  (J: ∀n,f (st s.length n)=some (.inr (a n))):ab f (st 0 0)=some (if s.all bQ=true then a (ck s) else b):=by
 have: ∀m k n,s.length - k=m->k<=s.length->n<10 ^k->ab f (st k n)=some (if(s.drop k).all bQ=true then a ((s.drop k).foldl jl n) else b):=by
  intro m
  induction m with
  |zero=>
   intro k n M hk F;have e:k=s.length:=by omega
   subst e;rw[bJ,J,av3];rfl
  |succ m N=>
   intro k n M hk F;have D:k<s.length:=by omega
   rw[bJ,at2 D,av4,aw6];cases hp:bQ s[k] with
   |true=>rw[h1 k D n F hp,au1];show ab f (st (k+1) (jl n s[k]))=_;have:=pa hp;exact N (k+1) _ (by omega) (by omega) (by unfold jl;rw[Nat.pow_succ];omega)
   |false=>rw[h2 k D n F hp];rfl
 exact this _ 0 0 rfl (ae6 _) (by decide)
theorem ZP {k n:Nat} (h:n<10 ^k) (hk:k<=9):n<1000000000:=Nat.lt_of_lt_of_le h (Nat.pow_le_pow_right (by simp) hk)
theorem Wd (s:List UInt8) (hs:s.length<=9):ab vG (s,0,(s.length:Int),0,())=some (if s.all bQ=true then .inl (((ck s:Nat):Int),()) else .inr (0,())):=by
 refine aac s (fun k n=>(s,(n:Int),(s.length:Int),(k:Int),())) (fun n=>Sum.inl ((n:Int),())) _ (fun k h n D hp=>?_) (fun k h n D hp=>?_) (fun n=>?_)
 · have hp:=pa hp;have D:=ZP D (by omega)
   have F:(10*(n:Int))+(IntKind.wrap .i64 (((s[k]).toNat:Int) - 48))=((jl n s[k]:Nat):Int):=by rw[wrap_i64 (by omega)];unfold jl;omega
   have J:jl n s[k]<=4611686018427387904:=by unfold jl;omega
   simp only[vG,dY (show(k:Int)<(s.length:Int) by omega),cond_true,au h,dN (show¬((s[k]).toNat:Int)<48 by omega),dN (show¬57<((s[k]).toNat:Int) by omega),cond_false,F,aw J,aH,aw (show k+1<=4611686018427387904 by omega)]
   rw[ai (bd (by omega)),ai (by rw[wK];omega)]
 · have hp:=TQ hp;by_cases c1:((s[k]).toNat:Int)<48
   · simp only[vG,dY (show(k:Int)<(s.length:Int) by omega),cond_true,au h,dY c1]
   · simp only[vG,dY (show(k:Int)<(s.length:Int) by omega),cond_true,cond_false,au h,dN c1,dY (show 57<((s[k]).toNat:Int) by omega)]
 · simp only[vG,dN (show¬(s.length:Int)<(s.length:Int) by omega),cond_false]
def ia (s:List UInt8):Bool:=decide (s.length=1)||decide (s.head?≠some 48)
def dj (s:List UInt8):Bool:=decide (1<=s.length)&&decide (s.length<=6)&&ia s&&s.all bQ
def xb (s:List UInt8):Int×Bool:=if dj s=true then((ck s:Int),true) else(0,false)
theorem abn {s:List UInt8} (h:0<s.length):s.head?=some s[0]:=by cases s with|nil=>cases h |cons a t=>rfl
theorem Nn {c:UInt8}:(c.toNat:Int)=48<->c=48:=⟨fun e=>by apply UInt8.toNat_inj.1;show c.toNat=48;omega,fun e=>by rw[e];rfl⟩
theorem Rz {s:List UInt8} (h:1<s.length) (D:s[0]=48):ia s=false:=by unfold ia;rw[abn (by omega),dN (show¬s.length=1 by omega),D];rfl
theorem X9 {s:List UInt8} (h:1<s.length) (D: ¬s[0]=48):ia s=true:=by unfold ia;rw[abn (by omega),dN (show¬s.length=1 by omega),dY (show some s[0]≠some 48 from fun e=>D (Option.some.inj e))];rfl
theorem X' {s:List UInt8} (h:s.length=1):ia s=true:=by grind[ia]
theorem ahr (s:List UInt8):JW s 6=some (xb s):=by
 unfold JW;by_cases h1:s.length<1
 · rw[dY (show(s.length:Int)<1 by omega)]
   unfold xb dj;rw[dN (show¬1<=s.length by omega)];rfl
 · rw[dN (show¬(s.length:Int)<1 by omega)]
   by_cases M:6<s.length
   · rw[dY (show(6:Int)<(s.length:Int) by omega)]
     unfold xb dj;rw[dN (show¬s.length<=6 by omega),ax0];rfl
   · rw[dN (show¬(6:Int)<(s.length:Int) by omega)]
     have F:dj s=(ia s&&s.all bQ):=by unfold dj;rw[dY (show 1<=s.length by omega),dY (show s.length<=6 by omega)];rfl
     have fin:ia s=true->(match(if s.all bQ=true then(Sum.inl (((ck s:Nat):Int),()):(Int×Unit)⊕(Int×Unit)) else .inr (0,())) with|.inl (n,_)=>some (n,true) |.inr (x,_)=>some (x,false))=some (xb s):=fun J=>by unfold xb;rw[F,J,au1];cases s.all bQ<;>rfl
     by_cases h2:1<s.length
     · rw[dY (show(1:Int)<(s.length:Int) by omega)]
       simp only[cond_true,cond_false,acG (show 0<s.length by omega)]
       by_cases D:s[0]=48
       · rw[dY (Nn.2 D)];unfold xb;rw[F,Rz h2 D];rfl
       · rw[dN (fun e=>D (Nn.1 e))];simp only[cond_false,Wd s (by omega),ae2]
         exact fin (X9 h2 D)
     · rw[dN (show¬(1:Int)<(s.length:Int) by omega)]
       simp only[cond_false,Wd s (by omega),ae2]
       exact fin (X' (by omega))
theorem Wx (s:List UInt8) (hs:s.length<=9):ab vN (s,0,0,())=some (if s.all bQ=true then .inl (((ck s:Nat):Int),()) else .inr (0,())):=by
 refine aac s (fun k n=>(s,(n:Int),(k:Int),())) (fun n=>Sum.inl ((n:Int),())) _ (fun k h n D hp=>?_) (fun k h n D hp=>?_) (fun n=>?_)
 · have hp:=pa hp;have D:=ZP D (by omega)
   have F:IntKind.wrap .i64 ((s[k]).toNat:Int)=((s[k]).toNat:Int):=wrap_i64 (by omega)
   have J:(10*(n:Int))+((s[k]).toNat:Int) - 48=((jl n s[k]:Nat):Int):=by unfold jl;omega
   have M:jl n s[k]<=4611686018427387904:=by unfold jl;omega
   simp only[vN,dY (show(k:Int)<(s.length:Int) by omega),cond_true,au h,dN (show¬((s[k]).toNat:Int)<48 by omega),dN (show¬57<((s[k]).toNat:Int) by omega),cond_false,F,J,aw M,aH,aw (show k+1<=4611686018427387904 by omega)]
   rw[ai (bd (by omega)),ai (bd (by omega))]
 · have hp:=TQ hp;by_cases c1:((s[k]).toNat:Int)<48
   · simp only[vN,dY (show(k:Int)<(s.length:Int) by omega),cond_true,au h,dY c1]
   · simp only[vN,dY (show(k:Int)<(s.length:Int) by omega),cond_true,cond_false,au h,dN c1,dY (show 57<((s[k]).toNat:Int) by omega)]
 · simp only[vN,dN (show¬(s.length:Int)<(s.length:Int) by omega),cond_false]
def oo (s:List UInt8):Bool:=decide (1<=s.length)&&decide (s.length<=9)&&ia s&&s.all bQ
theorem WQ (s:List UInt8):zA s=some (if oo s=true then((ck s:Int),true) else(0,false)):=by
 unfold zA;by_cases h1:s.length<1
 · rw[dY (show(s.length:Int)<1 by omega)]
   unfold oo;rw[dN (show¬1<=s.length by omega)];rfl
 · rw[dN (show¬(s.length:Int)<1 by omega)]
   by_cases M:9<s.length
   · rw[dY (show(9:Int)<(s.length:Int) by omega)]
     unfold oo;rw[dN (show¬s.length<=9 by omega),ax0];rfl
   · rw[dN (show¬(9:Int)<(s.length:Int) by omega)]
     have F:oo s=(ia s&&s.all bQ):=by unfold oo;rw[dY (show 1<=s.length by omega),dY (show s.length<=9 by omega)];rfl
     rw[F];have fin:ia s=true->(match(if s.all bQ=true then(Sum.inl (((ck s:Nat):Int),()):(Int×Unit)⊕(Int×Unit)) else .inr (0,())) with|.inl (n,_)=>some (n,true) |.inr (x,_)=>some (x,false))=some (if(ia s&&s.all bQ)=true then((ck s:Int),true) else(0,false)):=fun J=>by rw[J,au1];cases s.all bQ<;>rfl
     by_cases h2:1<s.length
     · rw[dY (show(1:Int)<(s.length:Int) by omega)]
       simp only[cond_true,cond_false,acG (show 0<s.length by omega)]
       by_cases D:s[0]=48
       · rw[dY (Nn.2 D),Rz h2 D];rfl
       · rw[dN (fun e=>D (Nn.1 e))];simp only[cond_false,Wx s (by omega),ae2]
         exact fin (X9 h2 D)
     · rw[dN (show¬(1:Int)<(s.length:Int) by omega)]
       simp only[cond_false,Wx s (by omega),ae2]
       exact fin (X' (by omega))
theorem P' (s:List UInt8): ∃n,zy s=some (n,dj s)/\(dj s=true->n=(ck s:Int)):=by
 unfold zy;rw[WQ]
 have e:dj s=(oo s&&decide (s.length<=6)):=by
  unfold dj oo;by_cases h:s.length<=6
  · rw[dY h,dY (show s.length<=9 by omega)];simp only[ax6]
  · rw[dN h,ax0,ax0];rfl
 cases D:oo s with
 |true=>
  refine⟨(ck s:Int),?_,fun _=>rfl⟩;rw[e,D,au1];simp only[if_true,ae2,cond_true];by_cases h:s.length<=6
  · rw[dY h,dY (show(s.length:Int)<=6 by omega)]
  · rw[dN h,dN (show¬(s.length:Int)<=6 by omega)]
 |false=>
  refine⟨0,?_,fun h=>by rw[e,D] at h;cases h⟩
  rw[e,D];rfl
def bo (c:Nat):Bool:=c==45
theorem ash:gA 45=bo:=rfl
theorem asp (l:List UInt8) (h:l.length<=20000):kV l oa=some (l.take (ak bo l 0),l.drop (ak bo l 0+1),decide (ak bo l 0<l.length)):=by unfold kV oa;simp only[];rw[if_pos (by omega)];unfold mW;rw[ash]
theorem L9 (s:List UInt8) (hs:s.length<=20000):strings_Split s gp=some (aB 46 s):=by grind[strings_Split,gp]
def dc (s:List UInt8):Bool:=(!decide (ak bo s 0<s.length)||preB (s.drop (ak bo s 0+1)))&&decide ((aB 46 (s.take (ak bo s 0))).length=3)&&(aB 46 (s.take (ak bo s 0))).all dj
def aR (s:List UInt8):cP:=match aB 46 (s.take (ak bo s 0)) with
 |[a,b,c]=>(((ck a:Int),(ck b:Int),(ck c:Int)),s.drop (ak bo s 0+1))
 |_=>((0,0,0),[])
def jO (s:List UInt8):cP×Bool:=if dc s=true then(aR s,true) else(((0,0,0),[]),false)
theorem three {α:Type} {l:List α} (h:l.length=3): ∃a b c,l=[a,b,c]:=by
 match l,h with
 |[a,b,c],_=>grind
theorem ag6 (a b c t:List UInt8):ab tt ([a,b,c],3,0,0,0,0,[],0,0,0,t,())=some (if(dj a&&dj b&&dj c)=true then .inl (0,0,0,[],(ck a:Int),(ck b:Int),(ck c:Int),t,()) else .inr (0,0,0,[],())):=by
 have step: ∀(k:Nat) (w:List UInt8) (x y z:Int),[a,b,c][k]? =some w->k<3->tt ([a,b,c],3,(k:Int),0,0,0,[],x,y,z,t,())=
   (if dj w=true then(if k=2 then some (.inl ([a,b,c],3,((k+1:Nat):Int),0,0,0,[],x,y,(ck w:Int),t,())) else if k=1 then some (.inl ([a,b,c],3,((k+1:Nat):Int),0,0,0,[],x,(ck w:Int),z,t,())) else some (.inl ([a,b,c],3,((k+1:Nat):Int),0,0,0,[],(ck w:Int),y,z,t,()))) else some (.inr (.inr (0,0,0,[],())))):=fun k w x y z hw hk=>by
  have D:ag [a,b,c] (k:Int)=some w:=by rw[aap,hw]
  simp only[tt,dY (show(k:Int)<3 by omega),cond_true,D,ae2,ahr,xb]
  cases N:dj w with
  |false=>rfl
  |true=>
   simp only[if_true,ae8,cond_false,aH,aw (show k+1<=4611686018427387904 by omega)]
   by_cases h2:k=2
   · rw[if_pos h2,if_pos (show(k:Int)=((2:Nat):Int) by omega)]
   · rw[if_neg h2,if_neg (show¬(k:Int)=((2:Nat):Int) by omega)]
     by_cases h1:k=1
     · rw[if_pos h1,if_pos (show(k:Int)=((1:Nat):Int) by omega)]
     · rw[if_neg h1,if_neg (show¬(k:Int)=((1:Nat):Int) by omega),if_pos (show(k:Int)=((0:Nat):Int) by omega)]
 have F:=step 0 a 0 0 0 rfl (by decide)
 rw[bJ];rw[show tt ([a,b,c],3,0,0,0,0,[],0,0,0,t,())=_ from F]
 cases J:dj a with
 |false=>rfl
 |true=>
  simp only[if_true,au1,show¬(0:Nat)=2 by decide,show¬(0:Nat)=1 by decide,if_false]
  rw[bJ,show tt ([a,b,c],3,((0+1:Nat):Int),0,0,0,[],(ck a:Int),0,0,t,())=_ from step 1 b _ _ _ rfl (by decide)]
  cases M:dj b with
  |false=>rfl
  |true=>
   simp only[if_true,au1,show¬(1:Nat)=2 by decide,if_false]
   rw[bJ,show tt ([a,b,c],3,((1+1:Nat):Int),0,0,0,[],(ck a:Int),(ck b:Int),0,t,())=_ from step 2 c _ _ _ rfl (by decide)]
   cases hc:dj c with
   |false=>rfl
   |true=>simp only[if_true];rw[bJ];rfl
theorem Wo (s:List UInt8) (hs:s.length<=20000):yT s=some (jO s):=by
 have h1:(s.take (ak bo s 0)).length<=20000:=by rw[at6];omega
 have h2:(s.drop (ak bo s 0+1)).length<=20000:=by rw[au4];omega
 have fin: ∀(g:Bool),g=true->(if((!decide (ak bo s 0<s.length)||preB (s.drop (ak bo s 0+1))))=true then True else False)->
   (bif !decide (((aB 46 (s.take (ak bo s 0))).length:Int)=3) then some (((0,0,0),[]),false)
    else(ab tt (aB 46 (s.take (ak bo s 0)),((aB 46 (s.take (ak bo s 0))).length:Int),0,0,0,0,[],0,0,0,s.drop (ak bo s 0+1),())).bind fun o=>match o with
     |.inl (an,ar,av,az,J,M,N,O,_)=>some (((J,M,N),O),true)
     |.inr (U,Y,Z,ah,_)=>some (((U,Y,Z),ah),false))=some (jO s):=fun g hg hA=>by
  have hA:(!decide (ak bo s 0<s.length)||preB (s.drop (ak bo s 0+1)))=true:=by
   cases h:(!decide (ak bo s 0<s.length)||preB (s.drop (ak bo s 0+1))) with
   |true=>rfl
   |false=>rw[h] at hA;exact hA.elim
  unfold jO dc aR;rw[hA,au1];by_cases D:(aB 46 (s.take (ak bo s 0))).length=3
  · obtain⟨a,b,c,F⟩:=three D;rw[F];rw[show((([a,b,c]:List (List UInt8)).length:Nat):Int)=3 from rfl,ag6]
    have e:([a,b,c]:List (List UInt8)).all dj=(dj a&&dj b&&dj c):=by simp only[av4,List.all_nil,ax6,Bool.and_assoc]
    rw[e];cases(dj a&&dj b&&dj c)<;>rfl
  · rw[dN (show¬((aB 46 (s.take (ak bo s 0))).length:Int)=3 by omega),dN D];rfl
 unfold yT;simp only[asp s hs,ae2];by_cases hm:ak bo s 0<s.length
 · rw[dY hm] at fin⊢;simp only[cond_true,Wz _ h2,ae2];cases hp:preB (s.drop (ak bo s 0+1)) with
   |false=>unfold jO dc;rw[dY hm,hp];rfl
   |true=>simp only[ae8,cond_false,L9 _ h1,ae2];exact fin true rfl (by rw[hp];trivial)
 · rw[dN hm] at fin⊢;simp only[cond_false,L9 _ h1,ae2];exact fin true rfl trivial
theorem alk (c:UInt8) (t:List UInt8):aB c (c::t)=[]::aB c t:=by rw[aB,if_pos rfl]
def ast (p:List UInt8):List (List UInt8)->List (List UInt8)
 |h::r=>(p++h)::r
 |[]=>[p]
theorem XQ (c:UInt8) (p q:List UInt8) (hp: ∀b∈p,b≠c):aB c (p++q)=ast p (aB c q):=by
 induction p with
 |nil=>
  rw[List.nil_append];cases h:aB c q with
  |nil=>exact absurd h (mE c q)
  |cons a r=>rfl
 |cons b t D=>
  have D:=D (fun x F=>hp x (List.mem_cons_of_mem _ F));rw[List.cons_append,aB,if_neg (hp b List.mem_cons_self),D];cases h:aB c q with
  |nil=>exact absurd h (mE c q)
  |cons a r=>rfl
theorem aj3 (c:UInt8) (p:List UInt8) (hp: ∀b∈p,b≠c):aB c p=[p]:=by have:=XQ c p [] hp;rw[at0] at this;rw[this];show[p++[]]=[p];rw[at0]
theorem ajG (s:List UInt8) (hs:s.length<=20000) (c:UInt8): ∀(n i D:Nat) (out:List (List UInt8)),s.length - i=n->i<=s.length->D<=i->out.length<=D->(∀b∈(s.take i).drop D,b≠c)->
  ∃(F:Nat) (M:List (List UInt8)),ab zW (s,(c.toNat:Int),(D:Int),(i:Int),out,())=some (s,(F:Int),M,())/\F<=s.length/\M.length<=F/\M++[s.drop F]=out++aB c (s.drop D):=by
 intro n
 induction n with
 |zero=>
  intro i D out hn hi hf N hc;have e:i=s.length:=by omega
  subst e;refine⟨D,out,?_,hf,N,?_⟩
  · rw[bJ];simp[zW]
  · rw[au3] at hc;rw[aj3 c _ hc]
 |succ n U=>
  intro i D out hn hi hf N hc;have O:i<s.length:=by omega
  rw[bJ];have an:s.drop D=(s.take i).drop D++s.drop i:=by rw[<-List.drop_append_of_le_length (by grind),au6]
  by_cases J:s[i]=c
  · have ah:((s[i]).toNat)=c.toNat:=by rw[J]
    simp[zW];simp (disch:=omega) only[K0];obtain⟨F,M,h1,h2,Y,Z⟩:=U (i+1) (i+1) (out++[(s.take i).drop D]) (by omega) (by omega) (ae5 _) (by grind) (fun b J=>by rw[aw4 (by grind)] at J;cases J)
    refine⟨F,M,h1,h2,Y,?_⟩;rw[Z,an,at2 O,J,XQ c _ _ hc,alk];show(out++[(s.take i).drop D])++aB c (s.drop (i+1))=out++(((s.take i).drop D++[])::aB c (s.drop (i+1)));grind
  · have ah: ¬((s[i]).toNat)=c.toNat:=fun e=>J (UInt8.toNat_inj.1 (by omega))
    simp (disch:=omega) only[K0,zW];refine U (i+1) D out (by omega) (by omega) (by omega) N (fun b hm=>?_)
    rw[List.take_succ_eq_append_getElem O] at hm;grind
theorem QS (s:List UInt8) (hs:s.length<=20000) (c:UInt8):qB s (c.toNat:Int)=some (aB c s):=by
 obtain⟨D,out,h1,h2,M,F⟩:=ajG s hs c s.length 0 0 [] (by omega) (ae6 _) (ae5 _) (ae5 _) (fun b J=>by cases J)
 have h1:ab zW (s,(c.toNat:Int),0,0,[],())=some (s,(D:Int),out,()):=h1;simp only[qB,h1,ae2,as1,au3];rw[ai (show(0:Int)<=(D:Int)/\(D:Int)<=(s.length:Int)/\(s.length:Int)<=(s.length:Int) by omega),ai (by simp only[as5,List.length_nil];omega),F]
 rfl
theorem XX (s:List UInt8) (hs:s.length<=20000):qB s 46=some (aB 46 s):=QS s hs 46
theorem ain (x:List UInt8) (J:x.length<=20000) (a b c:Int):ab Ei (x,0,a,b,c,())=some (x,(ak bo x 0:Int),a,b,c,()):=by
 refine rN (fun k=>(x,(k:Int),a,b,c,())) (fun k=>(x,(k:Int),a,b,c,())) bo x (fun k hk hp=>?_) (fun k hk hp=>?_) 0 (ae6 _)
 · have D: ¬(((x[k]).toNat:Int)=45):=by
     rw[fC hk];unfold bo at hp;intro h;have:dE x k=45:=by omega
     rw[this] at hp;cases hp
   simp only[Ei,dY (show(k:Int)<(x.length:Int) by omega),cond_true,A1 hk,dN D,as4,aH,aw (show k+1<=4611686018427387904 by omega)]
 · by_cases F:k<x.length
   · have D:((x[k]).toNat:Int)=45:=by
       have:=hp F;rw[fC F];unfold bo at this;have:dE x k=45:=by simpa using this
       omega
     simp only[Ei,dY (show(k:Int)<(x.length:Int) by omega),cond_true,A1 F,dY D,ae8,cond_false]
   · simp only[Ei,dN (show¬(k:Int)<(x.length:Int) by omega),cond_false]
def pC (s:List UInt8):List (List UInt8):=if ak bo s 0<s.length then aB 46 (s.drop (ak bo s 0+1)) else[]
theorem WA (l:List (List UInt8)) (D: ∀p∈l,p.length<=20000) (F:l.length<=20001) (a b c:Int):ab vP (0,0,0,0,a,b,c,l,())=some (if l.all gr=true then .inl (0,0,0,a,b,c,l,()) else .inr (0,0,0,())):=by
 refine kg l gr (fun k=>((k:Int),0,0,0,a,b,c,l,())) _ _ (fun k h hp=>?_) (fun k h hp=>?_) ?_
 · simp (disch:=omega) only[K0,vP,Xo _ (D _ (ae3 h)),hp]
 · simp (disch:=omega) only[K0,vP,Xo _ (D _ (ae3 h)),hp]
 · simp[vP]
def pw (s:List UInt8):Int×Int×Int×List (List UInt8):=((aR s).1.1,(aR s).1.2.1,(aR s).1.2.2,pC s)
theorem y8 (s:List UInt8) (hs:s.length<=20000):qn s=some (if dc s=true then(pw s,true) else((0,0,0,[]),false)):=by
 have hle:ak bo s 0<=s.length:=rV _ _ _ (ae6 _);have h1:(s.take (ak bo s 0)).length<=20000:=by rw[at6];omega
 have h2:(s.drop (ak bo s 0+1)).length<=20000:=by rw[au4];omega
 unfold qn;simp only[ain s hs,ae2,as1];rw[ai (show(0:Int)<=0/\(0:Int)<=((ak bo s 0:Nat):Int)/\((ak bo s 0:Nat):Int)<=(s.length:Int) by omega)]
 rw[show(s.take (ak bo s 0)).drop (0:Int).toNat=s.take (ak bo s 0) from rfl,XX _ h1,ae2]
 by_cases J:(aB 46 (s.take (ak bo s 0))).length=3
 · obtain⟨a,b,c,F⟩:=three J;obtain⟨na,O,va⟩:=P' a;obtain⟨nb,U,vb⟩:=P' b;obtain⟨nc,Y,vc⟩:=P' c;have M:aR s=(((ck a:Int),(ck b:Int),(ck c:Int)),s.drop (ak bo s 0+1)):=by unfold aR;rw[F]
   have hO:dc s=((!decide (ak bo s 0<s.length)||preB (s.drop (ak bo s 0+1)))&&(dj a&&dj b&&dj c)):=by unfold dc;rw[F];simp only[av4,List.all_nil,ax6,Bool.and_assoc];rfl
   rw[F];rw[show(ag [a,b,c] 0)=some a from rfl,show(ag [a,b,c] 1)=some b from rfl,show(ag [a,b,c] 2)=some c from rfl]
   rw[show(((([a,b,c]:List (List UInt8)).length:Nat):Int))=3 from rfl,dY (show(3:Int)=3 from rfl)]
   simp only[ae8,cond_false,ae2,O,U,Y];rw[hO];cases Z:dj a with
   |false=>simp only[as4,cond_true,aw3,ax0];rfl
   |true=>
    cases hb:dj b with
    |false=>simp only[as4,ae8,cond_true,cond_false,aw3,ax0,au1];rfl
    |true=>
     cases hc:dj c with
     |false=>simp only[as4,ae8,cond_true,cond_false,aw3,ax0,au1];rfl
     |true=>
      simp only[ae8,cond_false,ax6];rw[va Z,vb hb,vc hc];by_cases hm:ak bo s 0<s.length
      · have D:pC s=aB 46 (s.drop (ak bo s 0+1)):=by unfold pC;rw[if_pos hm]
        obtain⟨q1,q2⟩:=mA 46 (s.drop (ak bo s 0+1));rw[dY (show((ak bo s 0:Nat):Int)<(s.length:Int) by omega),dY hm]
        simp only[cond_true,aH,aw (show ak bo s 0+1<=4611686018427387904 by omega),as1,au3]
        rw[ai (show(0:Int)<=((ak bo s 0+1:Nat):Int)/\((ak bo s 0+1:Nat):Int)<=(s.length:Int)/\(s.length:Int)<=(s.length:Int) by omega),XX _ h2,ae2]
        unfold preB;by_cases h4:4<(aB 46 (s.drop (ak bo s 0+1))).length
        · rw[dY (show(4:Int)<((aB 46 (s.drop (ak bo s 0+1))).length:Int) by omega),dN (show¬(aB 46 (s.drop (ak bo s 0+1))).length<=4 by omega)];rfl
        · rw[dN (show¬(4:Int)<((aB 46 (s.drop (ak bo s 0+1))).length:Int) by omega),dY (show(aB 46 (s.drop (ak bo s 0+1))).length<=4 by omega)]
          simp only[cond_false,WA _ (fun p hp=>by have:=q1 p hp;omega) (by omega),ae2,ae8,Bool.false_or,au1]
          unfold pw;rw[D,M];cases(aB 46 (s.drop (ak bo s 0+1))).all gr<;>rfl
      · have D:pC s=[]:=by unfold pC;rw[if_neg hm]
        rw[dN (show¬((ak bo s 0:Nat):Int)<(s.length:Int) by omega),dN hm,dN (show¬((4:Nat)<0) by decide)]
        have N:ab vP (0,0,0,0,(ck a:Int),(ck b:Int),(ck c:Int),[],())=_:=WA [] (fun p hp=>by cases hp) (by decide) _ _ _
        simp only[cond_false,N,ae2,as4,Bool.true_or];unfold pw;rw[D,M];rfl
 · rw[dN (show¬((aB 46 (s.take (ak bo s 0))).length:Int)=3 by omega)]
   have:dc s=false:=by unfold dc;rw[dN J,ax0];rfl
   rw[this];rfl
def aP (a b:Int):Int:=if a<b then-1 else if b<a then 1 else 0
theorem vQ (a b:Int):rS a b=some (aP a b):=by grind[rS,aP]
theorem zI (a b:Int):my a b=some (aP a b):=by grind[my,cmp_isNaN_int,aP]
theorem DR (a b:List UInt8):rI a b=some (cC a b):=by grind[rI,cmp_isNaN_string,cC]
def cg {α:Type} (q:α->α->Int):List α->List α->Int
 |x::s,y::t=>if q x y=0 then cg q s t else q x y
 |_,_=>0
theorem Aj {V R α:Type} {f:V->Option (V⊕R)} (l m:List α) (q:α->α->Int) (st:Nat->V) (z:R) (o:Int->R)
  (h1: ∀k (h:k<l.length) (h':k<m.length),f (st k)=if q l[k] m[k]=0 then some (.inl (st (k+1))) else some (.inr (o (q l[k] m[k]))))
  (h2: ∀k,k<=l.length->k<=m.length->(k=l.length\/k=m.length)->f (st k)=some (.inr z)):ab f (st 0)=some (if cg q l m=0 then z else o (cg q l m)):=by
 have: ∀n k,l.length - k=n->k<=l.length->k<=m.length->ab f (st k)=some (if cg q (l.drop k) (m.drop k)=0 then z else o (cg q (l.drop k) (m.drop k))):=by
  intro n
  induction n with
  |zero=>grind[cg,bJ]
  |succ n M=>
   intro k J hk hm;rw[bJ];by_cases D:k<m.length
   · have F:k<l.length:=by omega
     rw[h1 k F D,at2 F,at2 D];have e:cg q (l[k]::l.drop (k+1)) (m[k]::m.drop (k+1))=if q l[k] m[k]=0 then cg q (l.drop (k+1)) (m.drop (k+1)) else q l[k] m[k]:=rfl
     grind
   · grind[cg]
 simp_all
def gf (a b:List UInt8):Int:=
 if(a.all bQ&& !b.all bQ)=true then-1 else if(b.all bQ&& !a.all bQ)=true then 1
 else if a.all bQ=true/\a.length≠b.length then aP a.length b.length else cC a b
theorem ahG (a b:List UInt8) (D:a.length<=1000000000) (F:b.length<=1000000000):J4 a b=some (gf a b):=by grind[J4,gf,tv,strings_Compare,zI]
def mP (a b:List (List UInt8)):Int:=if cg gf a b=0 then aP a.length b.length else cg gf a b
theorem ahV (a b:List (List UInt8)) (J:a.length<=20001) (D: ∀p∈a,p.length<=1000000000) (F: ∀p∈b,p.length<=1000000000):Kc a b=some (mP a b):=by
 have h:ab JV (a,b,0,())=some (if cg gf a b=0 then .inl (a,b,()) else .inr (cg gf a b,())):=by
  refine Aj a b gf (fun k=>(a,b,(k:Int),())) _ (fun x=>Sum.inr (x,())) (fun k h h'=>?_) (fun k h h' he=>?_)
  · simp (disch:=omega) only[K0,JV,ahG _ _ (D _ (ae3 h)) (F _ (ae3 h'))];grind
  · grind[JV]
 unfold Kc mP;rw[h];by_cases e:cg gf a b=0
 · rw[if_pos e,if_pos e];simp[zI]
 · grind
theorem S6 {a b c d:Int} (h1:a<b<->c<d) (h2:b<a<->d<c):aP a b=aP c d:=by grind[aP]
def gJ (x y:UInt8):Int:=aP x.toNat y.toNat
theorem abE (y:UInt8) (t:List UInt8):cC [] (y::t)= -1:=rfl
theorem abG (x:UInt8) (s:List UInt8):cC (x::s) []=1:=rfl
theorem Mt (x y:UInt8) (s t:List UInt8):cC (x::s) (y::t)=if gJ x y=0 then cC s t else gJ x y:=by
 unfold cC gJ aP;rw[show Op.bytesLess (x::s) (y::t)=(decide (x<y)||(x==y&&Op.bytesLess s t)) from rfl]
 by_cases h1:x<y
 · have D:x.toNat<(y.toNat:Int):=Int.ofNat_lt.2 (UInt8.lt_iff_toNat_lt.1 h1);grind
 · have D: ¬x.toNat<(y.toNat:Int):=fun g=>h1 (UInt8.lt_iff_toNat_lt.2 (Int.ofNat_lt.1 g));simp (disch:=omega) only[K0];by_cases h2:x=y
   · grind
   · have F:y.toNat<x.toNat:=by
       have: ¬x.toNat=y.toNat:=fun e=>h2 (UInt8.toNat_inj.1 e);omega
     grind
theorem abF: ∀(a b:List UInt8),cC a b=if cg gJ a b=0 then aP a.length b.length else cg gJ a b:=by
 intro a
 induction a with
 |nil=>
  intro b;cases b with
  |nil=>rfl
  |cons y t=>
   rw[abE,show cg gJ [] (y::t)=0 from rfl]
   simp[aP]
 |cons x s D=>
  intro b;cases b with
  |nil=>
   rw[abG,show cg gJ (x::s) []=0 from rfl]
   grind[aP]
  |cons y t=>
   rw[Mt,show cg gJ (x::s) (y::t)=if gJ x y=0 then cg gJ s t else gJ x y from rfl]
   by_cases h:gJ x y=0
   · rw[D t];have:aP s.length t.length=aP ((x::s).length) ((y::t).length):=by refine S6 ?_ ?_<;>simp[as5]<;>omega
     omega
   · omega
theorem y' (a b:List UInt8) (D:a.length<=20000):qo a b=some (cC a b):=by
 have h:ab KE (a,b,0,())=some (if cg gJ a b=0 then .inl (a,b,()) else .inr (cg gJ a b,())):=by
  refine Aj a b gJ (fun k=>(a,b,(k:Int),())) _ (fun x=>Sum.inr (x,())) (fun k h h'=>?_) (fun k h h' he=>?_)
  · have F:IntKind.wrap .i64 ((a[k]).toNat)=((a[k]).toNat):=wrap_i64 (by have:=(a[k]).toNat_lt;omega)
    have J:IntKind.wrap .i64 ((b[k]).toNat)=((b[k]).toNat):=wrap_i64 (by have:=(b[k]).toNat_lt;omega)
    simp (disch:=omega) only[K0,KE,vQ];grind[gJ,aP]
  · grind[KE]
 unfold qo;rw[h,abF];by_cases e:cg gJ a b=0
 · rw[if_pos e,if_pos e];simp[vQ]
 · grind
theorem al7 (s:List UInt8): ∀n,s.foldl jl n=n*10 ^s.length+ck s:=by
 induction s with
 |nil=>intro n;simp [ck]
 |cons c t D=>
  intro n;have h0:ck (c::t)=(c.toNat - 48)*10 ^t.length+ck t:=by unfold ck;rw[aw6,D];unfold jl;rw[Nat.zero_add];rfl
  rw[aw6,D];unfold jl;grind
theorem Lx (c:UInt8) (t:List UInt8):ck (c::t)=(c.toNat - 48)*10 ^t.length+ck t:=by show(c::t).foldl jl 0=_;rw[aw6,al7];unfold jl;rw[Nat.zero_add]
theorem Mm: ∀(s:List UInt8),s.all bQ=true->ck s<10 ^s.length:=by
 intro s
 induction s with
 |nil=>intro _;decide
 |cons c t D=>
  intro h;rw[av4,ae7] at h;have h1:=pa h.1;have h2:=D h.2;rw[Lx,as5];have:(c.toNat - 48)*10 ^t.length<=9*10 ^t.length:=Nat.mul_le_mul_right _ (by omega)
  omega
theorem abf {c:UInt8} {t:List UInt8} (h:(c::t).all bQ=true) (hc:c≠48):10 ^t.length<=ck (c::t):=by
 rw[av4,ae7] at h;have h1:=pa h.1;have:c.toNat≠48:=fun e=>hc (UInt8.toNat_inj.1 e);rw[Lx];have:1*10 ^t.length<=(c.toNat - 48)*10 ^t.length:=Nat.mul_le_mul_right _ (by omega)
 omega
theorem aoW: ∀(a b:List UInt8),a.all bQ=true->b.all bQ=true->a.length=b.length->aP (ck a) (ck b)=cC a b:=by
 intro a
 induction a with
 |nil=>intro b _ _ J;have:b=[]:=aw2.1 J.symm;subst this;rfl
 |cons x s N=>
  intro b F D J;cases b with
  |nil=>grind
  |cons y t=>
   have ah:=D;rw[av4,ae7] at F D;have M:=Nat.succ.inj J;have N:=N t F.2 D.2 M;have h1:=pa F.1;have h2:=pa D.1;have Z:=Mm s F.2;have U:=Mm t D.2;rw[Mt,Lx,Lx,<-M];rw[<-M] at U;unfold gJ;by_cases e1:x.toNat<y.toNat
   · have:(x.toNat - 48+1)*10 ^s.length<=(y.toNat - 48)*10 ^s.length:=Nat.mul_le_mul_right _ (by omega)
     rw[Nat.add_mul] at this;have O:aP x.toNat y.toNat= -1:=by unfold aP;omega
     simp (disch:=omega) only[K0,aP]
   · by_cases e2:y.toNat<x.toNat
     · have:(y.toNat - 48+1)*10 ^s.length<=(x.toNat - 48)*10 ^s.length:=Nat.mul_le_mul_right _ (by omega)
       grind[aP,Nat.add_mul]
     · have Y:x.toNat=y.toNat:=by omega
       have O:aP x.toNat y.toNat=0:=by unfold aP;omega
       rw[O,<-N,Y];refine S6 ?_ ?_<;>omega
theorem ZY {a b:List UInt8} (D:a.all bQ=true) (F:b.all bQ=true) (J:ia b=true) (O:a.length<b.length) (h0:0<a.length):ck a<ck b:=by
 cases b with
 |nil=>grind
 |cons y t=>
  have M:y≠48:=fun e=>by subst e;rw[Rz (s:=48::t) (by omega) rfl] at J;grind
  have:=abf F M;have h2:=Mm a D;have N:10 ^a.length<=10 ^t.length:=Nat.pow_le_pow_right (by simp) (by grind)
  omega
theorem Xs {a:List UInt8} (h:gr a=true):1<=a.length/\a.length<=8/\(a.all bQ=true->ia a=true):=by grind[gr,ia]
theorem ajE (a b:List UInt8) (O:gr a=true) (U:gr b=true):Lv a b=some (gf a b):=by
 obtain⟨M,a2,a3⟩:=Xs O;obtain⟨b1,b2,N⟩:=Xs U;unfold Lv gf;rw[Qa a (by omega),Qa b (by omega)]
 simp only[ae2];cases D:a.all bQ<;>cases F:b.all bQ
 · simp[y' a b (by omega)]
 · rfl
 · rfl
 · have Z:oo a=true:=by unfold oo;rw[dY M,dY (by omega),a3 D,D];rfl
   have nb:oo b=true:=by unfold oo;grind
   simp only[cond_true,WQ,Z,nb,if_true,ae2,vQ,ae8,au1,at1,if_false,true_and];by_cases J:a.length=b.length
   · rw[if_neg (fun g=>g J),aoW a b D F J]
   · rw[if_pos J];by_cases Y:a.length<b.length
     · have:=ZY D F (N F) Y (by omega)
       grind[aP]
     · have:=ZY F D (a3 D) (by omega) (by omega)
       grind[aP]
theorem gZ {a b:Int}:aP a b=0<->a=b:=by grind[aP]
theorem amp (x:UInt8):gJ x x=0:=gZ.2 rfl
theorem Fp: ∀(a:List UInt8),cC a a=0
 |[]=>rfl
 |x::s=>by rw[Mt,if_pos (amp x),Fp s]
theorem akB (a:List UInt8):gf a a=0:=by unfold gf;rw[Bool.and_not_self,if_neg Bool.false_ne_true,if_neg Bool.false_ne_true,if_neg (fun h=>h.2 rfl),Fp]
theorem Qp {α:Type} {q:α->α->Int} (h: ∀x,q x x=0): ∀(l:List α),cg q l l=0
 |[]=>rfl
 |x::t=>by rw[show cg q (x::t) (x::t)=if q x x=0 then cg q t t else q x x from rfl,if_pos (h x),Qp h t]
theorem QX (l:List (List UInt8)):mP l l=0:=by unfold mP;rw[if_pos (Qp akB l)];exact gZ.2 rfl
def iZ (v:cP):List Int:=[v.1.1,v.1.2.1,v.1.2.2]
def eJ (a b:cP):Int:=
 if cg aP (iZ a) (iZ b)=0 then(if a.2=b.2 then 0 else if a.2=[] then 1 else if b.2=[] then-1 else mP (aB 46 a.2) (aB 46 b.2))
 else cg aP (iZ a) (iZ b)
theorem Ji (a b:cP) (O:a.2.length<=20000) (U:b.2.length<=20000):tu a b=some (eJ a b):=by
 obtain⟨⟨D,a2,a3⟩,ap⟩:=a;obtain⟨⟨F,J,M⟩,N⟩:=b
 have h:ab yA (0,D,a2,a3,ap,F,J,M,N,())=some (if cg aP [D,a2,a3] [F,J,M]=0 then .inl (D,a2,a3,ap,F,J,M,N,()) else .inr (cg aP [D,a2,a3] [F,J,M],())):=by
  refine Aj [D,a2,a3] [F,J,M] aP (fun k=>((k:Int),D,a2,a3,ap,F,J,M,N,())) _ (fun x=>Sum.inr (x,())) (fun k h h'=>?_) (fun k h h' he=>?_)
  · have n20: ¬(0:Int)=(2:Int):=by decide
    have n10: ¬(0:Int)=(1:Int):=by decide
    have n21: ¬(1:Int)=(2:Int):=by decide
    match k,h with
    |0,_=>
     simp only[yA,cond_true,if_true,zI,ae2,List.getElem_cons_zero];by_cases e:aP D F=0
     · rw[if_pos e];simp (disch:=omega) only[K0]
     · rw[dN e,if_neg e];rfl
    |1,_=>
     simp only[yA,cond_true,if_true,zI,ae2,List.getElem_cons_zero,List.getElem_cons_succ];by_cases e:aP a2 J=0
     · rw[if_pos e];simp (disch:=omega) only[K0]
     · rw[dN e,if_neg e];rfl
    |2,_=>
     simp only[yA,cond_true,if_true,zI,ae2,List.getElem_cons_zero,List.getElem_cons_succ];by_cases e:aP a3 M=0
     · rw[if_pos e];simp (disch:=omega) only[K0]
     · rw[dN e,if_neg e];rfl
    |k+3,h=>exact absurd h (by simp)
  · have Y:k=3:=by rcases he with h |h<;>exact h
    subst Y;simp (disch:=omega) only[K0,yA]
 unfold tu eJ iZ;simp[] at O U;simp[h];by_cases e:cg aP [D,a2,a3] [F,J,M]=0
 · rw[if_pos e];by_cases Z:ap=N
   · simp (disch:=omega) only[K0]
   · simp (disch:=omega) only[K0];by_cases e2:ap=[]
     · simp (disch:=omega) only[K0]
     · simp (disch:=omega) only[K0];by_cases Y:N=[]
       · simp (disch:=omega) only[K0]
       · have:=(mA 46 ap).2;simp (disch:=omega) only[K0,L9 _ O,L9 _ U,ahV _ _ (show(aB 46 ap).length<=20001 by omega) (fun p hp=>by have:=(mA 46 ap).1 p hp;have:ap.length<=20000:=O;omega) (fun p hp=>by have:=(mA 46 N).1 p hp;have:N.length<=20000:=U;omega)]
 · rw[if_neg e,if_neg e]
abbrev Ny:=Int×Int×Int×List (List UInt8)
theorem WB (x y:Ny) (Z: ∀p∈x.2.2.2,gr p=true) (hy: ∀p∈y.2.2.2,gr p=true) (lx:x.2.2.2.length<=20001) (ly:y.2.2.2.length<=20001):
  tA x y=some (if cg aP [x.1,x.2.1,x.2.2.1] [y.1,y.2.1,y.2.2.1]=0 then
   (if x.2.2.2=[] then(if y.2.2.2=[] then 0 else 1) else if y.2.2.2=[] then-1 else mP x.2.2.2 y.2.2.2) else cg aP [x.1,x.2.1,x.2.2.1] [y.1,y.2.1,y.2.2.1]):=by
 obtain⟨F,a2,a3,ap⟩:=x;obtain⟨J,M,N,D⟩:=y;simp[] at Z hy lx ly⊢
 have h:ab Kb ([F,a2,a3],[J,M,N],0,F,a2,a3,ap,J,M,N,D,())=some (if cg aP [F,a2,a3] [J,M,N]=0 then .inl (F,a2,a3,ap,J,M,N,D,()) else .inr (cg aP [F,a2,a3] [J,M,N],())):=by
  refine Aj [F,a2,a3] [J,M,N] aP (fun k=>([F,a2,a3],[J,M,N],(k:Int),F,a2,a3,ap,J,M,N,D,())) _ (fun x=>Sum.inr (x,())) (fun k h h'=>?_) (fun k h h' he=>?_)
  · have hk:k<3:=h;simp (disch:=omega) only[K0,Kb,vQ];by_cases e:[F,a2,a3][k]=[J,M,N][k]
    · rw[if_pos (gZ.2 e)];simp (disch:=omega) only[K0]
    · rw[dN e,if_neg (fun g=>e (gZ.1 g))];rfl
  · have e3:k=3:=by rcases he with h |h<;>exact h
    subst e3;simp (disch:=omega) only[K0,Kb]
 unfold tA;simp only[h,ae2];by_cases e:cg aP [F,a2,a3] [J,M,N]=0
 · rw[if_pos e];simp only[];by_cases Y:ap=[]
   · subst Y;rw[dY (show(([].length:Nat):Int)=0 from rfl)]
     simp only[vQ,ae2];rw[ai (bd (by omega))]
     by_cases O:D=[]
     · subst O;simp (disch:=omega) only[K0];rfl
     · have:0<D.length:=av5.2 O;have o:aP D.length ((0:Nat):Int)=1:=by unfold aP;simp (disch:=omega) only[K0]
       simp (disch:=omega) only[K0,o];rfl
   · have l1:=av5.2 Y;rw[dN (show¬(ap.length:Int)=0 by omega)]
     by_cases O:D=[]
     · subst O;rw[dY (show(([].length:Nat):Int)=0 from rfl)]
       have o:aP ((([]:List (List UInt8)).length:Nat):Int) ap.length= -1:=by unfold aP;simp (disch:=omega) only[K0]
       simp only[cond_false,vQ,o];simp (disch:=omega) only[K0];rfl
     · have l2:=av5.2 O
       have h2:ab DN (0,F,a2,a3,ap,J,M,N,D,())=some (if cg gf ap D=0 then .inl (F,a2,a3,ap,J,M,N,D,()) else .inr (cg gf ap D,())):=by
        refine Aj ap D gf (fun k=>((k:Int),F,a2,a3,ap,J,M,N,D,())) _ (fun x=>Sum.inr (x,())) (fun k h h'=>?_) (fun k h h' he=>?_)
        · simp (disch:=omega) only[K0,DN,ajE _ _ (Z _ (ae3 h)) (hy _ (ae3 h'))];by_cases e:gf ap[k] D[k]=0
          · rw[if_pos e];simp (disch:=omega) only[K0]
          · rw[dN e,if_neg e];rfl
        · by_cases hl:k<ap.length
          · simp (disch:=omega) only[K0,DN]
          · simp (disch:=omega) only[K0,DN]
       simp (disch:=omega) only[K0];simp (disch:=omega) only[K0,h2];unfold mP;by_cases U:cg gf ap D=0
       · rw[if_pos U,if_pos U];simp[vQ,ae2]
       · rw[if_neg U,if_neg U]
 · rw[if_neg e,if_neg e]
theorem Rg {s:List UInt8} (h:dc s=true) (hm:ak bo s 0<s.length):preB (s.drop (ak bo s 0+1))=true:=by grind[dc]
theorem Qv {s:List UInt8} (h:dc s=true): ∃a b c,aB 46 (s.take (ak bo s 0))=[a,b,c]/\dj a=true/\dj b=true/\dj c=true:=by unfold dc at h;simp[decide_eq_true_eq] at h;obtain⟨a,b,c,D⟩:=three h.1.2;rw[D] at h;simp[List.all_nil] at h;exact⟨a,b,c,D,h.2.1,h.2.2.1,h.2.2.2⟩
theorem amD {s:List UInt8} (h:dc s=true):(aR s).2=s.drop (ak bo s 0+1):=by obtain⟨a,b,c,D,_⟩:=Qv h;unfold aR;rw[D]
theorem R5 {t:List UInt8} (h:preB t=true): ∀p∈aB 46 t,gr p=true:=by grind[preB]
theorem S5 {s:List UInt8} (h:dc s=true):pC s=if(aR s).2=[] then[] else aB 46 (aR s).2:=by
 rw[amD h];unfold pC;by_cases hm:ak bo s 0<s.length
 · rw[if_pos hm,if_neg];intro e;have:=R5 (Rg h hm);rw[e] at this;have:=this [] (by decide)
   cases this
 · rw[if_neg hm,if_pos (aw4 (by omega))]
theorem YG {s:List UInt8} (h:dc s=true): ∀p∈pC s,gr p=true:=by
 unfold pC;by_cases hm:ak bo s 0<s.length
 · rw[if_pos hm];exact R5 (Rg h hm)
 · grind
theorem ZO {s:List UInt8} (hs:s.length<=20000):(pC s).length<=20001:=by
 unfold pC;by_cases hm:ak bo s 0<s.length
 · rw[if_pos hm];have:=(mA 46 (s.drop (ak bo s 0+1))).2;grind
 · grind
theorem ah6 {s t:List UInt8} (hs:dc s=true) (J:dc t=true) (ls:s.length<=20000) (lt:t.length<=20000):tA (pw s) (pw t)=some (eJ (aR s) (aR t)):=by
 rw[WB (pw s) (pw t) (YG hs) (YG J) (ZO ls) (ZO lt)];unfold pw eJ iZ;simp[];rw[S5 hs,S5 J];by_cases e:cg aP [(aR s).1.1,(aR s).1.2.1,(aR s).1.2.2] [(aR t).1.1,(aR t).1.2.1,(aR t).1.2.2]=0
 · rw[if_pos e,if_pos e];by_cases D:(aR s).2=[]
   · rw[if_pos D,if_pos rfl];by_cases F:(aR t).2=[]
     · grind
     · rw[if_neg F,if_neg (mE _ _),if_neg (by grind),if_pos D]
   · rw[if_neg D,if_neg (mE _ _)];by_cases F:(aR t).2=[]
     · grind
     · rw[if_neg F,if_neg (mE _ _)];by_cases M:(aR s).2=(aR t).2
       · simp[M,QX]
       · grind
 · omega
theorem Qe (op:Int):EX op=some (bZ op):=by
 unfold EX bZ;by_cases h1:op=1
 · rw[dY h1,if_pos h1];rfl
 rw[dN h1,if_neg h1];by_cases h2:op=2
 · rw[dY h2,if_pos h2];rfl
 rw[dN h2,if_neg h2];by_cases D:op=3
 · rw[dY D,if_pos D];rfl
 rw[dN D,if_neg D];by_cases F:op=4
 · rw[dY F,if_pos F];rfl
 rw[dN F,if_neg F];by_cases J:op=5
 · rw[dY J,if_pos J];rfl
 rw[dN J,if_neg J];by_cases M:op=6
 · rw[dY M,if_pos M];rfl
 rw[dN M,if_neg M];by_cases N:op=7
 · rw[dY N,if_pos N];rfl
 rw[dN N,if_neg N];by_cases O:op=8
 · rw[dY O,if_pos O];rfl
 rw[dN O,if_neg O];rfl
def iM (s p:List UInt8):Bool:=decide (s.take p.length=p)
theorem Xc (s p:List UInt8) (hs:s.length<=20000):CL s p=some (iM s p):=by
 unfold CL iM;by_cases h:p.length<=s.length
 · rw[dY (show(p.length:Int)<=s.length by omega)]
   simp_all;rfl
 · have D: ¬s.take p.length=p:=fun e=>by
     grind
   grind
theorem Qr (s p:List UInt8) (hs:s.length<=20000):De s p=some (if iM s p=true then(s.drop p.length,true) else(s,false)):=by
 unfold De Pt;rw[Xc s p hs];cases h:iM s p with
 |false=>rfl
 |true=>
  have hle:p.length<=s.length:=by grind[iM]
  simp_all;rfl
theorem tI {V R α:Type} {f:V->Option (V⊕R)} (l:List α) (p:α->Bool) (st:Nat->V) (a:α->R) (b:R)
  (h1: ∀k (h:k<l.length),p l[k]=false->f (st k)=some (.inl (st (k+1))))
  (h2: ∀k (h:k<l.length),p l[k]=true->f (st k)=some (.inr (a l[k])))
  (F:f (st l.length)=some (.inr b)):ab f (st 0)=some ((l.find? p).elim b a):=by
 have: ∀n k,l.length - k=n->k<=l.length->ab f (st k)=some (((l.drop k).find? p).elim b a):=by
  intro n
  induction n with
  |zero=>grind[bJ]
  |succ n M=>
   intro k J hk;have D:k<l.length:=by omega
   rw[bJ,at2 D,List.find?_cons];cases hp:p l[k] with
   |true=>grind
   |false=>grind
 exact this _ 0 rfl (ae6 _)
def uw (c:Nat):Bool:=decide (48<=c)&&decide (c<=57)
def cY (s:List UInt8):Nat:=ak uw s 0
def ops:List Int:=[1,3,5,2,4,6,7,0]
def uD:List Int:=[0,1,2,3,4,5,6,7]
def mc (g:List UInt8):Option Int:=uD.find? fun op=>decide (g=bZ op)
def fb (s:List UInt8):Bool:=decide (s=[42])||match mc (s.take (cY s)) with
 |some _=>dc (s.drop (cY s))
 |none=>false
def jN (s:List UInt8):cO:=if s=[42] then(8,(0,0,0),[]) else match mc (s.take (cY s)) with
 |some op=>(op,aR (s.drop (cY s)))
 |none=>(0,(0,0,0),[])
theorem aj4 {c x:UInt8} {a:List UInt8} {r:List (List UInt8)}: ∀{l:List UInt8},aB c l=(x::a)::r-> ∃t,l=x::t:=by
 intro l h;cases l with
 |nil=>cases h
 |cons b t=>grind[aB]
theorem Yo {s:List UInt8} (h:dc s=true): ∃c t,s=c::t/\48<=c.toNat/\c.toNat<=57:=by
 obtain⟨a,b,c,J,D,_,_⟩:=Qv h;unfold dj at D;simp only[ae7] at D;cases a with
 |nil=>grind
 |cons x a=>
  obtain⟨t,M⟩:=aj4 J;have F:=D.2;rw[av4,ae7] at F;have F:=pa F.1;cases s with
  |nil=>grind
  |cons y s=>
   have:y=x:=by
    cases hk:ak bo (y::s) 0 with
    |zero=>grind
    |succ k=>grind
   grind
theorem an0 {g r:List UInt8} {c:UInt8} (D: ∀b∈g,uw b.toNat=false) (hc:uw c.toNat=true):cY (g++c::r)=g.length:=by simp_all[cY,ak]
theorem alw {op:Int}: ∀b∈bZ op,uw b.toNat=false:=by
 unfold bZ;intro b D;split at D
 · revert b;decide
 split at D
 · revert b;decide
 split at D
 · revert b;decide
 split at D
 · revert b;decide
 split at D
 · revert b;decide
 split at D
 · revert b;decide
 split at D
 · revert b;decide
 split at D
 · revert b;decide
 · revert b;decide
theorem Fg {c:UInt8}:uw c.toNat=true<->48<=c.toNat/\c.toNat<=57:=by simp[uw]
theorem anq {op:Int} (h:op∈ops):mc (bZ op)=some op:=by
 have D: ∀op∈ops,mc (bZ op)=some op:=by decide
 grind
theorem Rr {g:List UInt8} {op:Int} (h:mc g=some op):g=bZ op/\op∈ops:=by
 unfold mc at h;have h1:=List.mem_of_find?_eq_some h;have D: ∀op∈uD,op∈ops:=by decide
 grind
theorem aoU {c:UInt8} (r:List UInt8) (hc:uw c.toNat=true) {op:Int} (h:op∈ops):ops.find? (fun p=>iM (bZ op++c::r) (bZ p))=some op:=by
 have hc:=Fg.1 hc;have n61: ¬c=61:=fun e=>by subst e;grind
 unfold ops at h⊢;simp[List.not_mem_nil] at h;rcases h with rfl |rfl |rfl |rfl |rfl |rfl |rfl |rfl<;>simp [iM,bZ,n61]
theorem aps {s:List UInt8} {op:Int} (hf:ops.find? (fun p=>iM s (bZ p))=some op) (J:dc (s.drop (bZ op).length)=true):cY s=(bZ op).length/\mc (s.take (cY s))=some op:=by
 have h1:=List.find?_some hf;have h2:=List.mem_of_find?_eq_some hf;unfold iM at h1;have h1:=of_decide_eq_true h1;obtain⟨c,t,F,hc⟩:=Yo J;have e:s=bZ op++c::t:=by rw[<-F];have:=au6 (bZ op).length s;grind
 have D:cY s=(bZ op).length:=by rw[e];exact an0 alw (Fg.2 hc)
 exact⟨D,by rw[D,h1];exact anq h2⟩
theorem RD {s:List UInt8} {op:Int} (F:mc (s.take (cY s))=some op) (M:dc (s.drop (cY s))=true):ops.find? (fun p=>iM s (bZ p))=some op/\cY s=(bZ op).length:=by
 obtain⟨h1,h2⟩:=Rr F;obtain⟨c,t,J,hc⟩:=Yo M;have e:s=bZ op++c::t:=by rw[<-h1,<-J,au6]
 have D:cY s=(bZ op).length:=by grind
 refine⟨?_,D⟩;have:=aoU t (Fg.2 hc) h2;simp_all
theorem WX (s:List UInt8) (hs:s.length<=20000): ∃x,Lg s=some (x,fb s)/\(fb s=true->x=jN s):=by
 unfold Lg;by_cases h:s=kr
 · rw[dY h];have h':s=[42]:=h;have hO:fb s=true:=by unfold fb;rw[dY h'];rfl
   exact⟨_,by rw[hO];rfl,fun _=>by unfold jN;rw[if_pos h']⟩
 · have h': ¬s=[42]:=h;rw[dN h]
   have M:ab zf (s,ops,ops.length,0,0,0,0,0,[],())=some ((ops.find? (fun p=>iM s (bZ p))).elim (Sum.inl (0,0,0,0,[],())) (fun op=>Sum.inr ((jO (s.drop (bZ op).length)).2,op,(jO (s.drop (bZ op).length)).1.1.1,(jO (s.drop (bZ op).length)).1.1.2.1,(jO (s.drop (bZ op).length)).1.1.2.2,(jO (s.drop (bZ op).length)).1.2,()))):=by
    refine tI ops (fun p=>iM s (bZ p)) (fun k=>(s,ops,(ops.length:Int),(k:Int),0,0,0,0,[],())) (fun op=>Sum.inr ((jO (s.drop (bZ op).length)).2,op,(jO (s.drop (bZ op).length)).1.1.1,(jO (s.drop (bZ op).length)).1.1.2.1,(jO (s.drop (bZ op).length)).1.1.2.2,(jO (s.drop (bZ op).length)).1.2,())) (Sum.inl (0,0,0,0,[],())) (fun k h hp=>?_) (fun k h hp=>?_) ?_
    · have hk:k<8:=h;simp only[zf,dY (show(k:Int)<ops.length by show(k:Int)<8;omega),cond_true,au h,Qe,ae2,Qr s _ hs,hp,at1,if_false,cond_false,aH,aw (show k+1<=4611686018427387904 by omega)]
    · have hk:k<8:=h;simp only[zf,dY (show(k:Int)<ops.length by show(k:Int)<8;omega),au h,Qe,ae2,Qr s _ hs,hp,if_true]
      rw[Wo _ (show(s.drop (bZ ops[k]).length).length<=20000 by rw[au4];omega)];rfl
    · simp[zf,cond_false]
   simp only[cond_false];rw[show ab zf (s,[1,3,5,2,4,6,7,0],(([1,3,5,2,4,6,7,0]:List (Int)).length:Int),0,0,0,0,0,[],())=_ from M,ae2]
   cases hf:ops.find? (fun p=>iM s (bZ p)) with
   |none=>
    refine⟨(0,(0,0,0),[]),?_,?_⟩
    · have hO:fb s=false:=by
        cases hO:fb s with
        |false=>rfl
        |true=>
         exfalso;unfold fb at hO;rw[dN h'] at hO;split at hO
         · rename_i op D;have:=(RD D hO).1;rw[hf] at this;cases this
         · cases hO
      rw[hO];rfl
    · intro hO;exfalso;unfold fb at hO;rw[dN h'] at hO;split at hO
      · rename_i op D;have:=(RD D hO).1;rw[hf] at this;cases this
      · cases hO
   |some op=>
    simp only[Option.elim_some];by_cases F:dc (s.drop (bZ op).length)=true
    · obtain⟨c1,c2⟩:=aps hf F;have hO:fb s=true:=by unfold fb;rw[dN h',c2];simp[];rw[c1];exact F
      simp_all[jO,jN,hO,c2,c1]
    · have hO:fb s=false:=by
        cases hO:fb s with
        |false=>rfl
        |true=>
         exfalso;unfold fb at hO;rw[dN h'] at hO;split at hO
         · rename_i N D;obtain⟨J,O⟩:=RD D hO;rw[hf] at J;cases J;grind
         · cases hO
      refine⟨(op,(0,0,0),[]),?_,fun g=>by rw[hO] at g;cases g⟩
      rw[hO];unfold jO;rw[if_neg F]
def bX (v:cP):Ny:=(v.1.1,v.1.2.1,v.1.2.2,if v.2=[] then[] else aB 46 v.2)
theorem SV {s:List UInt8} (h:dc s=true):pw s=bX (aR s):=by unfold pw bX;rw[S5 h]
abbrev acR:=Int×Ny
def fJ (c:cO):acR:=(c.1,bX c.2)
theorem Xn (k:Nat) (h:k<8):R0 (k:Int)=some (bZ (k:Int)):=by
 match k,h with
 |0,_=>rfl
 |1,_=>rfl
 |2,_=>rfl
 |3,_=>rfl
 |4,_=>rfl
 |5,_=>rfl
 |6,_=>rfl
 |7,_=>rfl
 |k+8,h=>omega
theorem ZW (k:Nat) (h:k<uD.length):uD[k]=(k:Int):=by
 match k,h with
 |0,_=>rfl
 |1,_=>rfl
 |2,_=>rfl
 |3,_=>rfl
 |4,_=>rfl
 |5,_=>rfl
 |6,_=>rfl
 |7,_=>rfl
 |k+8,h=>exact absurd h (by show¬k+8<8;omega)
theorem ajD (s:List UInt8) (hs:s.length<=20000):ab zV (s,0,0,0,0,0,())=some (s,(cY s:Int),0,0,0,0,()):=by
 refine rN (fun k=>(s,(k:Int),0,0,0,0,())) (fun k=>(s,(k:Int),0,0,0,0,())) uw s (fun k hk hp=>?_) (fun k hk hp=>?_) 0 (ae6 _)
 · have F: ¬(48<=(s[k]).toNat/\(s[k]).toNat<=57):=fun g=>by
     rw[<-fC hk] at hp;rw[Fg.2 g] at hp;grind
   by_cases c1:((s[k]).toNat)<48
   · simp (disch:=omega) only[K0,zV]
   · simp (disch:=omega) only[K0,zV]
 · by_cases D:k<s.length
   · have hp:=hp D;rw[<-fC D] at hp;have:=Fg.1 hp;simp (disch:=omega) only[K0,zV]
   · simp (disch:=omega) only[K0,zV]
def n9 (s:List UInt8):Ny×Bool:=if dc s=true then(pw s,true) else((0,0,0,[]),false)
theorem XW (s:List UInt8) (hs:s.length<=20000): ∃x,Mf s=some (x,fb s)/\(fb s=true->x=fJ (jN s)):=by
 unfold Mf;by_cases h:s=kr
 · rw[dY h];have h':s=[42]:=h;have hO:fb s=true:=by unfold fb;rw[dY h'];rfl
   exact⟨_,by rw[hO];rfl,fun _=>by unfold jN;rw[if_pos h'];rfl⟩
 · have h': ¬s=[42]:=h;have M:cY s<=s.length:=rV _ _ _ (ae6 _);have J:(s.drop (cY s)).length<=20000:=by rw[au4];omega
   have F:ab Fb (s,(cY s),0,0,0,0,0,())=some ((uD.find? (fun p=>decide (s.take (cY s)=bZ p))).elim (Sum.inl (0,0,0,0,())) (fun op=>Sum.inr ((n9 (s.drop (cY s))).2,op,(n9 (s.drop (cY s))).1.1,(n9 (s.drop (cY s))).1.2.1,(n9 (s.drop (cY s))).1.2.2.1,(n9 (s.drop (cY s))).1.2.2.2,()))):=by
    refine tI uD (fun p=>decide (s.take (cY s)=bZ p)) (fun k=>(s,(cY s:Int),(k:Int),0,0,0,0,())) (fun op=>Sum.inr ((n9 (s.drop (cY s))).2,op,(n9 (s.drop (cY s))).1.1,(n9 (s.drop (cY s))).1.2.1,(n9 (s.drop (cY s))).1.2.2.1,(n9 (s.drop (cY s))).1.2.2.2,())) (Sum.inl (0,0,0,0,())) (fun k h hp=>?_) (fun k h hp=>?_) ?_
    · have hk:k<8:=h;rw[ZW k h] at hp;simp only[Fb,cond_true,Xn k hk,as1];simp (disch:=omega) only[K0];rw[show decide ((s.take (cY s)).drop (0:Int).toNat=bZ k)=false from hp]
      simp (disch:=omega) only[K0]
    · have hk:k<8:=h;rw[ZW k h] at hp⊢;simp only[Fb,cond_true,Xn k hk,as1];simp (disch:=omega) only[K0];rw[show decide ((s.take (cY s)).drop (0:Int).toNat=bZ k)=true from hp]
      simp[cond_true];simp (disch:=omega) only[au3,y8 _ J];rfl
    · have: ¬(uD.length:Int)<8:=by decide
      simp (disch:=omega) only[K0,Fb]
   simp (disch:=omega) only[K0,ajD s hs,F];have hO:fb s=match mc (s.take (cY s)) with|some _=>dc (s.drop (cY s)) |none=>false:=by unfold fb;grind
   have hC:jN s=match mc (s.take (cY s)) with|some op=>(op,aR (s.drop (cY s))) |none=>(0,(0,0,0),[]):=by unfold jN;grind
   have hf:uD.find? (fun p=>decide (s.take (cY s)=bZ p))=mc (s.take (cY s)):=rfl;rw[hf,hO,hC];cases mc (s.take (cY s)) with
   |none=>simp
   |some op=>
    simp only[Option.elim_some];cases D:dc (s.drop (cY s)) with
    |false=>exact⟨_,by unfold n9;rw[D];rfl,fun g=>by cases g⟩
    |true=>exact⟨fJ (op,aR (s.drop (cY s))),by unfold n9;rw[D];simp[if_true];rw[SV D];rfl,fun _=>rfl⟩
theorem LZ {V R α β:Type} {f:V->Option (V⊕R)} (l:List α) (ok:α->Bool) (val:α->β) (st:Nat->List β->V) (a:List β->R) (b:R)
  (h1: ∀k (h:k<l.length) (out:List β),out.length=k->ok l[k]=true->f (st k out)=some (.inl (st (k+1) (out++[val l[k]]))))
  (h2: ∀k (h:k<l.length) (out:List β),out.length=k->ok l[k]=false->f (st k out)=some (.inr b))
  (J: ∀out:List β,f (st l.length out)=some (.inr (a out))):ab f (st 0 [])=some (if l.all ok=true then a (l.map val) else b):=by
 have: ∀n k out,l.length - k=n->k<=l.length->out.length=k->ab f (st k out)=some (if(l.drop k).all ok=true then a (out++(l.drop k).map val) else b):=by
  intro n
  induction n with
  |zero=>
   intro k out M hk F;have e:k=l.length:=by omega
   subst e;rw[bJ,J,av3,List.map_nil,at0];rfl
  |succ n N=>
   intro k out M hk F;have D:k<l.length:=by omega
   rw[bJ,at2 D,av4];cases hp:ok l[k] with
   |true=>
    rw[h1 k D out F hp];show ab f (st (k+1) (out++[val l[k]]))=_;rw[N (k+1) (out++[val l[k]]) (by omega) (by omega) (by grind),List.append_assoc]
    rfl
   |false=>rw[h2 k D out F hp];rfl
 exact this _ 0 [] rfl (ae6 _) rfl
def mX (s:List UInt8):Bool:=decide ((aB 44 s).length<=4)&&(aB 44 s).all fb
def mf (s:List UInt8):List cO:=(aB 44 s).map jN
def iH (s:List UInt8):Bool:=decide (s.length<=80)&&decide ((aB 124 s).length<=4)&&(aB 124 s).all mX
def dU (s:List UInt8):List (List cO):=(aB 124 s).map mf
theorem aqa (s:List UInt8) (hs:s.length<=20000):strings_Split s TX=some (aB 44 s):=by grind[strings_Split,TX]
theorem aor (s:List UInt8) (hs:s.length<=20000):strings_Split s TB=some (aB 124 s):=by grind[strings_Split,TB]
theorem Xh (s:List UInt8) (hs:s.length<=20000):LO s=some (if mX s=true then(mf s,true) else([],false)):=by
 obtain⟨O,U⟩:=mA 44 s;unfold LO mX;simp[aqa s hs];by_cases N:4<(aB 44 s).length
 · grind
 · simp (disch:=omega) only[K0]
   have J:ab Ev (aB 44 s,((aB 44 s).length),0,[],())=some (if(aB 44 s).all fb=true then Sum.inl ((aB 44 s).map jN,()) else Sum.inr ()):=by
    refine LZ (aB 44 s) fb jN (fun k out=>(aB 44 s,((aB 44 s).length:Int),(k:Int),out,())) (fun out=>Sum.inl (out,())) (Sum.inr ()) (fun k h out M hp=>?_) (fun k h out M hp=>?_) (fun out=>?_)
    · obtain⟨x,D,F⟩:=WX ((aB 44 s)[k]) (by grind)
      rw[hp] at D;have F:=F hp;subst F;simp[Ev,au h,D];simp (disch:=omega) only[K0]
    · obtain⟨x,D,F⟩:=WX ((aB 44 s)[k]) (by grind)
      simp (disch:=omega) only[K0,hp,Ev,D]
    · simp[Ev]
   simp (disch:=omega) only[J];unfold mf;grind
theorem aiL (s:List UInt8) (hs:s.length<=20000):Ew s=some (if iH s=true then(dU s,true) else([],false)):=by
 obtain⟨O,U⟩:=mA 124 s;unfold Ew iH;simp[aor s hs];by_cases N:80<s.length
 · grind
 by_cases M:4<(aB 124 s).length
 · grind
 · simp (disch:=omega) only[K0]
   have F:ab DU (aB 124 s,((aB 124 s).length),0,[],())=some (if(aB 124 s).all mX=true then Sum.inl ((aB 124 s).map mf,()) else Sum.inr ()):=by
    refine LZ (aB 124 s) mX mf (fun k out=>(aB 124 s,((aB 124 s).length:Int),(k:Int),out,())) (fun out=>Sum.inl (out,())) (Sum.inr ()) (fun k h out J hp=>?_) (fun k h out J hp=>?_) (fun out=>?_)
    · have D:=Xh ((aB 124 s)[k]) (by grind)
      simp (disch:=omega) only[K0,DU,D]
    · have D:=Xh ((aB 124 s)[k]) (by grind)
      simp_all;simp (disch:=omega) only[K0,DU,D]
    · simp[DU]
   simp (disch:=omega) only[F];unfold dU;grind
theorem XY (s:List UInt8) (hs:s.length<=20000):qB s 44=some (aB 44 s):=QS s hs 44
theorem akw (s:List UInt8) (hs:s.length<=20000):qB s 124=some (aB 124 s):=QS s hs 124
theorem Qh (s:List UInt8) (hs:s.length<=20000):zU s=some (if iH s=true then((dU s).map (fun a=>a.map fJ),true) else([],false)):=by
 obtain⟨Y,l2⟩:=mA 124 s;unfold zU iH;simp only[akw s hs];by_cases ah:80<s.length
 · grind
 by_cases Z:4<(aB 124 s).length
 · simp (disch:=omega) only[K0];rfl
 · simp (disch:=omega) only[K0]
   have U:ab Ef (aB 124 s,0,[],())=some (if(aB 124 s).all mX=true then Sum.inl ((aB 124 s).map (fun p=>(mf p).map fJ),()) else Sum.inr ()):=by
    refine LZ (aB 124 s) mX (fun p=>(mf p).map fJ) (fun k out=>(aB 124 s,(k:Int),out,())) (fun out=>Sum.inl (out,())) (Sum.inr ()) (fun k h out M hp=>?_) (fun k h out M hp=>?_) (fun out=>?_)
    all_goals try
     have N:((aB 124 s)[k]).length<=20000:=by have:=Y _ (ae3 h);omega
     obtain⟨m1,m2⟩:=mA 44 ((aB 124 s)[k])
     have J:ab Eg (aB 124 s,k,aB 44 ((aB 124 s)[k]),0,[],out,())=some (if(aB 44 ((aB 124 s)[k])).all fb=true then Sum.inl (aB 124 s,(k:Int),(aB 44 ((aB 124 s)[k])).map (fun x=>fJ (jN x)),out,()) else Sum.inr ()):=by
      refine LZ (aB 44 ((aB 124 s)[k])) fb (fun x=>fJ (jN x)) (fun j o=>(aB 124 s,(k:Int),aB 44 ((aB 124 s)[k]),(j:Int),o,out,())) (fun o=>Sum.inl (aB 124 s,(k:Int),o,out,())) (Sum.inr ()) (fun j h o M hp=>?_) (fun j h o M hp=>?_) (fun o=>?_)
      · obtain⟨x,D,F⟩:=XW ((aB 44 ((aB 124 s)[k]))[j]) (by grind)
        rw[hp] at D;have F:=F hp;subst F;simp only[Eg,cond_true,au h,D,ae2];simp (disch:=omega) only[K0]
      · obtain⟨x,D,F⟩:=XW ((aB 44 ((aB 124 s)[k]))[j]) (by grind)
        rw[hp] at D;simp (disch:=omega) only[K0,Eg,D]
      · simp[Eg,cond_false]
    · unfold mX at hp;rw[ae7] at hp;have O:=of_decide_eq_true hp.1;rw[if_pos hp.2] at J;simp only[Ef,cond_true,au h,XY _ N,ae2,J,aw (show k+1<=4611686018427387904 by omega)]
      simp (disch:=omega) only[K0];unfold mf;rw[aw9];rfl
    · simp (disch:=omega) only[K0,Ef,XY _ N];by_cases O:4<(aB 44 ((aB 124 s)[k])).length
      · simp (disch:=omega) only[K0]
      · have hc: ¬(aB 44 ((aB 124 s)[k])).all fb=true:=fun g=>by
          unfold mX at hp;simp (disch:=omega) only[K0,g] at hp;cases hp
        rw[if_neg hc] at J;simp (disch:=omega) only[K0,J]
    · simp[Ef,cond_false]
   simp (disch:=omega) only[U];unfold dU;rw[aw9];cases(aB 124 s).all mX<;>rfl
abbrev aQ:=Int×List (List UInt8)×List Int
def ct (L:aQ):Prop:=L.2.1.length=L.2.2.length/\L.2.1.length<=20/\ ∀w∈L.2.1,1<=w.length/\w.length<=80
def dt (e l c:Int):Value:=.iface 295 (.agg #[.int .i64 e,.int .i64 l,.int .i64 c])
theorem gb (L:aQ) (k:Nat):jD (L,(k:Int))=some (decide (k<L.2.1.length),(L,(k:Int))):=by simp[jD]
theorem qz (L:aQ) (D:ct L) (k:Nat) (h:k<L.2.1.length):fh (L,(k:Int))=some (.inl (L.2.1[k],(L,((k+1:Nat):Int)),())):=by have F:=D.2.1;unfold fh;simp (disch:=omega) only[gb];simp (disch:=omega) only[K0,show((k+1:Nat):Int) - 1=k by omega]
theorem abP (L:aQ) (k:Nat) (h: ¬k<L.2.1.length):fh (L,(k:Int))=some (.inr (dt 1 L.1 0,())):=by unfold fh;simp (disch:=omega) only[K0,gb];rfl
theorem arX (w:List UInt8) (L:aQ) (D:ct L) (k:Nat) (h:k<L.2.1.length) (hw:L.2.1[k]=w):yM w (L,(k:Int))=some (true,(L,((k+1:Nat):Int))):=by have F:=D.2.1;unfold yM;simp (disch:=omega) only[K0,gb]
theorem asw (w:List UInt8) (L:aQ) (F:ct L) (k:Nat) (h: ∀h:k<L.2.1.length,¬L.2.1[k]=w):yM w (L,(k:Int))=some (false,(L,(k:Int))):=by
 unfold yM;by_cases D:k<L.2.1.length
 · simp[gb,au D,dN (h D)]
 · grind[gb]
abbrev gK:=aQ×Int×Int×Int×Int
theorem bw (o:gK):dF o=some (decide (o.2.2.1=0),o):=rfl
theorem qw (L:aQ) (D:ct L) (k:Nat) (f:Int×Int) (h:k<L.2.1.length):jg (L,(k:Int),0,f)=some (L.2.1[k],(L,((k+1:Nat):Int),0,f)):=by have F:=D.2.1;unfold jg;simp[bw];simp (disch:=omega) only[K0]
theorem aaV (L:aQ) (k:Nat) (f:Int×Int) (h: ¬k<L.2.1.length):jg (L,(k:Int),0,f)=some ([],(L,(k:Int),1,L.1,0)):=by unfold jg;simp only[bw,ae2,decide_true,ae8,cond_false,dY (show(L.2.1.length:Int)<=k by omega),cond_true]
theorem Zs (o:gK) (h: ¬o.2.2.1=0):jg o=some ([],o):=by grind[jg,bw]
theorem Fs (n m:Int) (o:gK) (h: ¬o.2.2.1=0):fA n m o=some o:=by grind[fA,bw]
theorem qx (o:gK) (h: ¬o.2.2.1=0):j6 o=some (false,o):=by grind[j6,bw]
theorem qm (L:aQ) (k:Nat) (f:Int×Int):j6 (L,(k:Int),0,f)=some (decide (k<L.2.1.length),(L,(k:Int),0,f)):=by simp[j6,bw]
theorem iS (kind:Int) (o:gK) (h: ¬o.2.2.1=0):eW kind o=some ([],o):=by unfold eW;simp (disch:=omega) only[K0,Zs o h,bw]
theorem amx (kind:Int) (L:aQ) (k:Nat) (f:Int×Int) (h: ¬k<L.2.1.length):eW kind (L,(k:Int),0,f)=some ([],(L,(k:Int),1,L.1,0)):=by unfold eW;simp (disch:=omega) only[K0,aaV L k f h,bw]
theorem aoj (kind:Int) (L:aQ) (D:ct L) (k:Nat) (f:Int×Int) (h:k<L.2.1.length) (F:ji (L.2.1[k]) kind=some true):eW kind (L,(k:Int),0,f)=some (L.2.1[k],(L,((k+1:Nat):Int),0,f)):=by unfold eW;simp[qw L D k f h,bw,F]
def Tt (w:List UInt8):Prop:=1<=w.length/\w.length<=80
theorem alx (t:List UInt8) (n:Nat): ∀(k:Nat) (ws:List (List UInt8)) (cs:List Nat),t.length - k<=n->(∀w∈ws,Tt w)-> ∀J M,scan t k ws cs=.ok J M-> ∀w∈J,Tt w:=by
 induction n with
 |zero=>
  intro k ws cs N hw J M h;rw[v8 _ _ _ _ (by omega)] at h
  grind
 |succ n O=>
  intro k ws cs N hw J M h;by_cases D:k<t.length
  · cases F:bA (dE t k) with
    |true=>rw[Ex _ _ _ _ D F] at h;grind
    |false=>
     by_cases h1:ws.length=20\/80<ak bA t k - k
     · rw[vW _ _ _ _ D F h1] at h;grind
     · by_cases h2:ak iO (t.take (ak bA t k)) k<ak bA t k
       · rw[Fy _ _ _ _ D F h1 h2] at h;grind
       · rw[E1 _ _ _ _ D F h1 h2] at h;have g1:=Aa _ _ D F;have g2:=rV bA t k (Nat.le_of_lt D);refine O _ _ _ (by omega) (fun w U=>?_) _ _ h
         grind[Tt,at6]
  · grind
theorem akd (F:Nat) (n:Nat): ∀(rest:List UInt8) (no:Nat) (out ls:List po),rest.length<=n->out.length<no->no<=F+1->(∀d∈out,ct (ur d)/\1<=d.ws.length)->gI F rest no out=.ok ls->(∀d∈ls,ct (ur d)/\1<=d.ws.length)/\ls.length<=F:=by
 induction n with
 |zero=>grind[E2,as0,au7,LG]
 |succ n M=>
  intro rest no out ls Z ho ah J h;by_cases e:rest=[]
  · grind
  · by_cases hm:F<no
    · rw[KZ _ _ _ _ e hm] at h;cases h
    · cases hs:nW (rest.take (ak dw rest 0)) with
      |bad c Y=>rw[Li _ _ _ _ e hm hs] at h;cases h
      |ok ws cs=>
       rw[LQ _ _ _ _ e hm hs] at h;have h0:=av5.2 e;obtain⟨N,O⟩:=amU hs;have U:=alx _ _ _ _ _ (ae5 _) (fun w hw=>by cases hw) _ _ hs
       refine M _ _ _ _ (by grind) ?_ (by omega) (fun d D=>?_) h
       · split
         · omega
         · rw[as0,au7];omega
       · split at D
         · simp_all
         · rename_i hw;rcases List.mem_append.1 D with D |D
           · exact J d D
           · rw[List.mem_singleton.1 D];exact⟨⟨by show ws.length=(ig cs).length;rw[LG];exact N,O,U⟩,by show 1<=ws.length;omega⟩
theorem Qn (s:List UInt8):(∀L∈(iI s).1,ct L/\1<=L.2.1.length)/\(iI s).1.length<=800:=by
 unfold iI;split
 · grind
 · cases h:gI 800 s 1 [] with
   |bad c l J=>exact⟨(fun L D=>by cases D),ae6 _⟩
   |ok ls=>
    obtain⟨h1,h2⟩:=akd 800 s.length s 1 [] ls (ae5 _) (by simp) (by simp) (fun d F=>by cases F) h
    refine⟨fun L D=>?_,by show(ls.map ur).length<=800;rw[ae4];exact h2⟩
    obtain⟨d,F,rfl⟩:=List.mem_map.1 D;exact h1 d F
theorem WC (c:UInt8):KJ (c.toNat:Int)=some (gq c):=by
 have key: ∀b:Bool,(b=true<->((48<=c.toNat/\c.toNat<=57)\/(97<=c.toNat/\c.toNat<=122)\/c.toNat=45))->some b=some (gq c):=fun b D=>by
  cases hp:gq c with
  |true=>rw[D.2 (LX hp)]
  |false=>
   cases b with
   |false=>rfl
   |true=>exact absurd (D.1 rfl) (Mi hp)
 grind[KJ]
def Nk (c:UInt8):Bool:=decide (97<=c.toNat)&&decide (c.toNat<=122)
def M3 (s:List UInt8):Bool:=match s with|[]=>true |c::_=>Nk c
def kn (s:List UInt8):Bool:=decide (s.length<=20)&&M3 s&&s.all gq
theorem aan {s:List UInt8} (h:0<s.length):M3 s=Nk s[0]:=by cases s with|nil=>cases h |cons a t=>rfl
theorem ah8 (s:List UInt8) (hs:s.length<=20000):ab za (s,(s.length:Int),0,())=some (if s.all gq=true then .inl () else .inr ()):=by
 refine kg s gq (fun k=>(s,(s.length:Int),(k:Int),())) _ _ (fun k h hp=>?_) (fun k h hp=>?_) ?_
 · simp (disch:=omega) only[K0,za,WC,hp]
 · simp (disch:=omega) only[K0,za,WC,hp]
 · simp[za]
theorem ahL (s:List UInt8) (hs:s.length<=20000):ab yV (s,0,())=some (if s.all gq=true then .inl () else .inr ()):=by
 refine kg s gq (fun k=>(s,(k:Int),())) _ _ (fun k h hp=>?_) (fun k h hp=>?_) ?_
 · have hp:=LX hp;simp (disch:=omega) only[K0,yV];grind
 · have hp:=Mi hp;simp (disch:=omega) only[K0,yV];grind
 · simp[yV]
theorem Qb (s:List UInt8) (hs:s.length<=20000):EM s=some (kn s):=by
 have fin:(match(if s.all gq=true then(Sum.inl ()) else .inr ()) with|.inl _=>some true |.inr _=>some false)=some (s.all gq):=by grind
 unfold EM kn;by_cases F:20<s.length
 · grind
 · simp (disch:=omega) only[K0];simp (disch:=omega) only[ah8 s hs];by_cases h0:s=[]
   · subst h0;rfl
   · have D:=av5.2 h0;rw[aan D];simp (disch:=omega) only[K0];unfold Nk;by_cases c1:((s[0]).toNat)<97
     · grind
     · grind
theorem J0 (s:List UInt8) (hs:s.length<=20000):zj s=some (kn s):=by
 unfold zj kn;by_cases F:20<s.length
 · grind
 · simp (disch:=omega) only[K0];simp (disch:=omega) only[ahL s hs];by_cases h0:s=[]
   · subst h0;rfl
   · have D:=av5.2 h0;rw[aan D];simp (disch:=omega) only[K0];unfold Nk;by_cases c1:((s[0]).toNat)<97
     · grind
     · grind
def T7 (s:List UInt8):Bool:= !decide (s.getLast?=some 45)
def dL (s:List UInt8):Bool:= !decide (s=[])&&kn s&&T7 s
theorem Ax {s:List UInt8} (h:0<s.length) {R:Type} (f:UInt8->Option R):(ag s ((s.length:Int) - 1)).bind f=f (s[s.length - 1])/\s.getLast?=some (s[s.length - 1]):=by
 refine⟨?_,?_⟩
 · rw[show(s.length) - 1=((s.length - 1:Nat):Int) by omega];exact au (by omega) f
 · grind
theorem ac5 {c:UInt8}:(c.toNat:Int)=45<->c=45:=⟨fun e=>by apply UInt8.toNat_inj.1;show c.toNat=45;omega,fun e=>by rw[e];rfl⟩
theorem yW (s:List UInt8) (hs:s.length<=20000):ql s=some (dL s):=by
 unfold ql dL T7;by_cases h0:s=[]
 · grind
 · have D:=av5.2 h0;rw[dN h0];simp[Qb s hs];cases kn s with
   |false=>rfl
   |true=>
    simp[au1];rw[ai (bd (by omega)),(Ax D _).1,(Ax D (fun _=>some ())).2]
    by_cases e:s[s.length - 1]=45
    · simp_all
    · rw[dN (fun g=>e (ac5.1 g)),dN (fun g=>e (Option.some.inj g))]
theorem DZ (s:List UInt8) (hs:s.length<=20000):vY s=some (dL s):=by
 unfold vY dL T7;by_cases h0:s=[]
 · grind
 · have D:=av5.2 h0;rw[dN h0,dY (show(0:Int)<s.length by omega)]
   simp[J0 s hs];cases kn s with
   |false=>rfl
   |true=>
    simp[au1];rw[ai (bd (by omega)),(Ax D _).1,(Ax D (fun _=>some ())).2]
    by_cases e:s[s.length - 1]=45
    · simp_all
    · rw[dN (fun g=>e (ac5.1 g)),dN (fun g=>e (Option.some.inj g))]
def dR (c:Nat):Bool:=c==47
theorem asg:gA 47=dR:=rfl
theorem aso (l:List UInt8) (h:l.length<=20000):kV l TW=some (l.take (ak dR l 0),l.drop (ak dR l 0+1),decide (ak dR l 0<l.length)):=by unfold kV TW;simp only[];rw[if_pos (by omega)];unfold mW;rw[asg]
def jI (s:List UInt8):Option (List UInt8×List UInt8):=match s with
 |[]=>none
 |c::t=>if c=64/\ak dR t 0<t.length then some (t.take (ak dR t 0),t.drop (ak dR t 0+1)) else none
theorem WR (s:List UInt8) (hs:s.length<=20000):EN s=some ((jI s).getD ([],s)):=by
 unfold EN;simp[Qr s _ hs];cases s with
 |nil=>rfl
 |cons c t=>
  have D:t.length<=20000:=by grind
  by_cases h:c=64
  · subst h;have:iM (64::t) AW=true:=by unfold iM AW;rfl
    simp[this];rw[show(64::t).drop AW.length=t from rfl,aso t D]
    by_cases hm:ak dR t 0<t.length
    · have e:jI (64::t)=some (t.take (ak dR t 0),t.drop (ak dR t 0+1)):=if_pos ⟨rfl,hm⟩;grind
    · have e:jI (64::t)=none:=if_neg (fun g=>hm g.2);grind
  · have:iM (c::t) AW=false:=by
      grind[iM,AW]
    have e:jI (c::t)=none:=if_neg (fun g=>h g.1);grind
def gm (s:List UInt8):Bool:=match jI s with
 |some p=>dL p.2&&dL p.1
 |none=>dL s
theorem EZ {s:List UInt8} {p:List UInt8×List UInt8} (h:jI s=some p):p.1.length+p.2.length+2=s.length/\ ∃t,s=64::t/\ak dR t 0<t.length/\p=(t.take (ak dR t 0),t.drop (ak dR t 0+1)):=by
 cases s with
 |nil=>cases h
 |cons c t=>grind[jI]
theorem DO (s:List UInt8) (hs:s.length<=20000):tB s=some (gm s):=by
 unfold tB gm;rw[WR s hs];cases h:jI s with
 |none=>
  simp[yW s hs];cases dL s with
  |false=>rfl
  |true=>rfl
 |some p=>
  obtain⟨J,_⟩:=EZ h;have D:p.1.length<=20000:=by omega
  have F:p.2.length<=20000:=by omega
  simp[yW _ D,yW _ F];cases dL p.2 with
  |false=>rfl
  |true=>grind
theorem P9 (s:List UInt8) (hs:s.length<=20000):zx s=some (ak dR s 0:Int):=by
 have D:ak dR s 0<=s.length:=rV _ _ _ (ae6 _)
 have h:ab DY (s,0,())=some (if ak dR s 0<s.length then Sum.inr ((ak dR s 0:Int),()) else Sum.inl (s,())):=by
  refine rN (fun k=>(s,(k:Int),())) (fun k=>if k<s.length then Sum.inr ((k:Int),()) else Sum.inl (s,())) dR s (fun k hk hp=>?_) (fun k hk hp=>?_) 0 (ae6 _)
  · have F: ¬(((s[k]).toNat)=47):=by
      rw[fC hk];unfold dR at hp;grind
    simp (disch:=omega) only[K0,DY]
  · by_cases D:k<s.length
    · have F:((s[k]).toNat)=47:=by
        have:=hp D;rw[fC D];unfold dR at this;have:dE s k=47:=by grind
        omega
      simp (disch:=omega) only[K0,DY]
    · grind[DY]
 unfold zx;rw[h];by_cases hm:ak dR s 0<s.length
 · grind
 · grind
theorem Qx (t:List UInt8):ak dR (64::t) 0=ak dR t 0+1:=rfl
theorem WM (s:List UInt8) (hs:s.length<=20000):EG s=some (match jI s with|some p=>dL p.1 |none=>false):=by
 unfold EG;rw[P9 s hs,ae2];cases s with
 |nil=>rfl
 |cons c t=>
  by_cases hc:c=64
  · subst hc;rw[Qx];by_cases hm:ak dR t 0<t.length
    · have e:jI (64::t)=some (t.take (ak dR t 0),t.drop (ak dR t 0+1)):=if_pos ⟨rfl,hm⟩;rw[e];simp (disch:=omega) only[K0];rw[DZ _ (by grind)]
      rfl
    · have e:jI (64::t)=none:=if_neg (fun g=>hm g.2);grind
  · have e:jI (c::t)=none:=if_neg (fun g=>hc g.1);have D: ¬c.toNat=64:=fun g=>hc (by apply UInt8.toNat_inj.1;show c.toNat=64;omega)
    rw[e];by_cases hm:ak dR (c::t) 0<(c::t).length
    · rw[dY (show((ak dR (c::t) 0):Int)<((c::t).length) by omega)]
      simp (disch:=omega) only[K0,List.getElem_cons_zero]
    · grind
theorem aoO (t:List UInt8):dL (64::t)=false:=by
 unfold dL kn;rw[show M3 (64::t)=false from rfl]
 grind
theorem Kk (s:List UInt8) (hs:s.length<=20000):vZ s=some (gm s):=by
 unfold vZ gm;rw[WM s hs];cases h:jI s with
 |none=>simp (disch:=omega) only[K0,DZ s hs]
 |some p=>
  obtain⟨D,t,rfl,hm,rfl⟩:=EZ h;simp only[];cases hp:dL (t.take (ak dR t 0)) with
  |false=>simp (disch:=omega) only[K0,DZ _ hs,aoO]
  |true=>
   simp only[P9 _ hs,ae2,Qx,aH,ax6];simp[as5] at hs;rw[aw (by omega),ai (show(0:Int)<=((ak dR t 0+1+1:Nat):Int)/\((ak dR t 0+1+1:Nat):Int)<=((64::t).length)/\((64::t).length)<=((64::t).length:Int) by simp[as5];omega)]
   rw[as1,as1,au3,DZ _ (by grind)]
   rfl
def kq (s:List UInt8):Bool:=decide (s.getLast?=some 42)
theorem KW {s:List UInt8} (h:kq s=true):s=s.dropLast++[42]:=by
 have h:=of_decide_eq_true h;cases hs:s with
 |nil=>grind
 |cons a t=>
  have D:s≠[]:=by grind
  have e:=List.dropLast_concat_getLast D;grind
def lW (s:List UInt8):Bool:=if kq s=true then(match jI s.dropLast with|some p=>kn p.2&&dL p.1 |none=>kn s.dropLast) else gm s
theorem aiH (s:List UInt8) (hs:s.length<=20000):IG s kr=some (kq s):=by
 unfold IG kq;cases s with
 |nil=>rfl
 |cons a t=>
  rw[dY (show(kr.length:Int)<=((a::t).length) by show(1:Int)<=_;simp[as5];omega)]
  simp only[cond_true];have D:((a::t).length) - kr.length=(t.length:Int):=by show((a::t).length:Int) - 1=_;grind
  rw[D,aw (by omega),ai (show(0:Int)<=t.length/\t.length<=((a::t).length:Int)/\((a::t).length)<=((a::t).length:Int) by simp[as5];omega),as1,as1,au3]
  have M:t.length<(a::t).length:=by simp
  have F:(a::t).drop t.length=[(a::t)[t.length]]:=by rw[at2 M,aw4 (by simp)]
  have J:(a::t).getLast?=some ((a::t)[t.length]):=by grind
  rw[F,J];by_cases h:(a::t)[t.length]=42
  · rw[dY (show[(a::t)[t.length]]=kr by rw[h];rfl),dY (by rw[h])]
  · rw[dN (show¬[(a::t)[t.length]]=kr from fun g=>h (by injection g)),dN (fun g=>h (Option.some.inj g))]
theorem P5 (s:List UInt8) (hs:s.length<=20000):yB s kr=some (if kq s=true then(s.dropLast,true) else(s,false)):=by
 unfold yB Pr;rw[aiH s hs];cases h:kq s with
 |false=>rfl
 |true=>
  have e:=KW h;have F:s.length=s.dropLast.length+1:=by grind
  have D:s.length - kr.length=((s.length - 1:Nat):Int):=by show(s.length:Int) - 1=_;omega
  simp (disch:=omega) only[K0,D];grind
theorem Ql (s:List UInt8) (hs:s.length<=20000):zZ s=some (lW s):=by
 unfold zZ lW;rw[P5 s hs];cases h:kq s with
 |false=>simp[cond_true,DO s hs]
 |true=>
  have D:s.dropLast.length<=20000:=by grind
  simp[WR _ D];cases h2:jI s.dropLast with
  |none=>simp (disch:=omega) only[Option.getD_none,Qb _ D];grind
  |some p=>
   obtain⟨M,_⟩:=EZ h2;have F:p.1.length<=20000:=by omega
   have J:p.2.length<=20000:=by omega
   simp[Qb _ J,yW _ F];cases kn p.2 with
   |false=>rfl
   |true=>grind
theorem apo (t:List UInt8):kn (64::t)=false:=by
 unfold kn;rw[show M3 (64::t)=false from rfl]
 grind
theorem asJ {c:UInt8}:(c.toNat:Int)=42<->c=42:=⟨fun e=>by apply UInt8.toNat_inj.1;show c.toNat=42;omega,fun e=>by rw[e];rfl⟩
theorem QB (s:List UInt8) (hs:s.length<=20000):Ac s=some (kq s):=by
 unfold Ac kq;by_cases h0:s=[]
 · grind
 · have D:=av5.2 h0;rw[dY (show(0:Int)<s.length by omega)]
   simp[cond_true];rw[ai (bd (by omega)),(Ax D _).1,(Ax D (fun _=>some ())).2]
   by_cases e:s[s.length - 1]=42
   · simp_all
   · rw[dN (fun g=>e (asJ.1 g)),dN (fun g=>e (Option.some.inj g))]
theorem QD (s:List UInt8) (hs:s.length<=20000):Ad s=some (lW s):=by
 unfold Ad lW;rw[QB s hs];cases h:kq s with
 |false=>simp[at1,cond_true,Kk s hs]
 |true=>
  have e:=KW h;have M:s.length=s.dropLast.length+1:=by grind
  have D:s.dropLast.length<=20000:=by omega
  have F:s.length - 1=((s.length - 1:Nat):Int):=by omega
  simp only[if_true,F];rw[aw (by omega),ai (show(0:Int)<=0/\0<=((s.length - 1:Nat):Int)/\((s.length - 1:Nat):Int)<=s.length by omega),as1]
  rw[show(s.take (s.length - 1)).drop (0:Int).toNat=s.dropLast by rw[List.dropLast_eq_take];rfl]
  rw[WM _ D];cases h2:jI s.dropLast with
  |none=>simp (disch:=omega) only[K0,J0 _ D]
  |some p=>
   obtain⟨N,t,J,hm,rfl⟩:=EZ h2;simp only[];rw[J] at D⊢;cases hp:dL (t.take (ak dR t 0)) with
   |false=>simp (disch:=omega) only[K0,J0 _ D,apo]
   |true=>
    simp only[P9 _ D,ae2,Qx,aH,ax6];simp[as5] at D;rw[aw (by omega),ai (show(0:Int)<=((ak dR t 0+1+1:Nat):Int)/\((ak dR t 0+1+1:Nat):Int)<=((64::t).length)/\((64::t).length)<=((64::t).length:Int) by simp[as5];omega)]
    rw[as1,as1,au3,J0 _ (by grind)]
    rfl
end
end Go.Proofs.YtejhifnjgoclpaaGreatDoor.Fx
