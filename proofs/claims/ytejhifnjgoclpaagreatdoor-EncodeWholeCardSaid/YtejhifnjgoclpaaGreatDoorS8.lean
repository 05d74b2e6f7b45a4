/- Parts of the proofs, put together by a program. -/
import Derived.Test.YtejhifnjgoclpaaGreatDoorS7
import Derived.Deep.AppendSrc
set_option linter.unusedVariables false
set_option linter.unusedSimpArgs false
open List renaming length_map->ae4,getElem?_eq_getElem->ae9,length_append->as0,mem_append->as3,append_nil->at0,mem_cons->at3,map_append->at4,mem_singleton->at5,length_take->at6,append_assoc->at8,mem_cons_self->at9,mem_map->au0,take_append_drop->au6,all_eq_true->au9,mem_cons_of_mem->av1,all_cons->av4,getElem?_eq_some_iff->av7,length_eq_zero_iff->aw2,drop_eq_nil_of_le->aw4,take_of_length_le->ax5,getElem?_append_left->ax8,map_cons->ay3,length_replicate->ay4,map_congr_left->az2,getElem?_map->az5,replicate_succ->az9
open Nat renaming le_refl->ae5,zero_le->ae6,eq_of_beq_eq_true->at7,le_trans->au2
open Bool renaming and_eq_true->ae7,or_eq_true->aw1
open Int renaming toNat_natCast->as1,toNat_of_nonneg->ax4,ofNat_le->az1
open Option renaming map_some->av9,bind_eq_some_iff->aw5,isSome_iff_exists->ax3
open Array renaming getElem?_eq_some_iff->ay5
namespace Go.Proofs.YtejhifnjgoclpaaGreatDoor.Fx
open Go.RowKit
set_option maxRecDepth 1000000
noncomputable section
section
variable {R:Type} {y:R} {P:Program} {ty:TypeId} {c:Cx} {h:Hp} {w w':World} {E:cQ} {H H':aG} {σ:cG} {K:DS->Option R} {dst:Option Tmp} {ty0:TypeId} {pos:String} {af:Array Edge} {g:Option (Nat×Bool)} {op:Op}
theorem bC.set (hs:Sub H h) (k:Nat) (o:aX):bC h (aj (oset H k o))=bY h k (some o):=by
 funext j;rw[jh];unfold bC bY;by_cases e:j=k
 · grind
 · rw[if_neg e,if_neg e];exact congrFun (bC.self hs) j
theorem acy (c:Cx) (h:Hp) (k:Nat) (v:Value) (o:aX): ∀j,j≠k->bY h k (some o) j=h j/\(⟨bY c.m k v,c.A⟩:Cx).m j=c.m j:=fun j D=>⟨iG D,iG D⟩
theorem dZ.one {e:TypeId} {n m:Nat} {v:Value} {xs:List Value} (D:dZ w e n v m xs):v.oneCell'=true:=by rcases D with⟨_,rfl,_⟩ |⟨_,_,_,rfl,_⟩<;>rfl
theorem Conc.setRow (hC:Conc E c h w) {k:Nat} {o':aX} {hs:List (Option Nat)} {n:Nat} (D:cU o'=some (hs,ty,n)) (M:0<n) {v':Value} (U:Ext (Bl c h k) w w') (hm: ∀b,dS v'=some b->Bl c h k b\/w.heap.size<=b) {s:Bool} (N:s=true->E.H k=none) (Y: ∀o,h k=some o->OL s (c.m k) o v' o')
  {xs:List Value} (F:dZ w' ty n v' (bc o') xs) (O:ay (CR c h w) xs (dM o')): ∃c',Conc E c' (bY h k (some o')) w'/\eN c h w c' (bY h k (some o')) w'/\CR c' (bY h k (some o')) w' v' (.ow k hs.length .all)/\c'.m k=v':=by
 have hk:(⟨bY c.m k v',c.A⟩:Cx).m k=v':=gl _ _ _
 obtain⟨h1,h2⟩:=hC.put k (o':=o') (c':=⟨bY c.m k v',c.A⟩) (h':=bY h k (some o')) (w':=w') (gl _ _ _) (acy c h k v' o') rfl U (by grind) N (by grind) fun J=>by
  cases o' with
  |var=>cases D
  |_=>exact⟨_,_,_,xs,D,M,by rw[hk];exact F,O.mono fun _ _=>CR.fL J⟩
 exact⟨_,h1,h2,⟨F.one,o',gl _ _ _,some (bc o'),by simp [cD,D],_,_,_,D,fun m e=>by cases e;exact⟨ae5 _,fun _=>hk.symm⟩⟩,hk⟩
theorem Conc.newVar (hC:Conc E c h w) {k:Nat} (hk:h k=none) (ty:TypeId) {cs:List Value} {l:List DC} (N:ay (CR c h w) cs l):
  ∃c',Conc E c' (bY h k (some (.var ty l))) (w.alloc (.cells cs.toArray ty))/\eN c h w c' (bY h k (some (.var ty l))) (w.alloc (.cells cs.toArray ty))/\CR c' (bY h k (some (.var ty l))) (w.alloc (.cells cs.toArray ty)) (.pointer (some ⟨w.heap.size,0,none⟩)) (.ptr k 0):=by
 have J:iB w (w.alloc (.cells cs.toArray ty)):=iB.tO ((Below.refl _ _).alloc (ae5 _) _);have e:(⟨bY c.m k (.pointer (some ⟨w.heap.size,0,none⟩)),c.A⟩:Cx).m k=.pointer (some ⟨w.heap.size,0,none⟩):=gl _ _ _;obtain⟨h1,h2⟩:=hC.put k (o':=.var ty l) (c':=⟨bY c.m k (.pointer (some ⟨w.heap.size,0,none⟩)),c.A⟩) (h':=bY h k (some (.var ty l))) (gl _ _ _) (acy c h k _ _) rfl (J.mono fun _=>False.elim) (s:=false) (by rw[e];intro b D;injection D with D;exact .inr (Nat.le_of_eq D)) (fun q=>by cases q) (fun o F=>by rw[hk] at F;cases F) fun M=>⟨w.heap.size,cs.toArray,e,heap_alloc_new w _,N.mono fun _ _=>CR.fL M⟩
 exact⟨_,h1,h2,rfl,_,gl _ _ _,⟨_,_,rfl⟩,_,e,rfl⟩
theorem R9 {e:TypeId} {t:Ty} {v:Value} {l:List (den t)} {xs:List Value} (D:dZ w e (wid t) v l.length xs) (M:ay (CR c h w) xs (aT t l)) (hA: ∀b i,dS v=some b->c.A b i):CR c h w v (.v (.sl t) l):=by
 have hc:= @dZ.cell w _ _ _ _ _ D;rcases D with⟨a,rfl,h0,_⟩ |⟨b,cap,cur,rfl,h2,F,J,_⟩
 · obtain rfl:=aw2.1 h0;exact⟨rfl,a,0,rfl,.inl rfl⟩
 · refine⟨rfl,_,_,rfl,.inr ⟨F,J,b,0,rfl,CG.flat.1 (CG.of (h:=h) M fun i u hu=>⟨hA _ _ rfl,?_⟩)⟩⟩;grind
theorem Conc.frozen (hC:Conc E c h w) (J:iB w w') {e:TypeId} {t:Ty} {v:Value} {l:List (den t)} {xs:List Value} (D:dZ w' e (wid t) v l.length xs) (F: ∀b,dS v=some b->w.heap.size<=b) (M:ay (CR c h w) xs (aT t l)): ∃c',Conc E c' h w'/\eN c h w c' h w'/\CR c' h w' v (.v (.sl t) l):=by
 obtain⟨h1,h2⟩:=hC.Gw J (fun b i=>c.A b i\/dS v=some b) (fun b i q=>.inl q) fun b i q=>q.imp id fun q=>⟨F b q,by
  rcases D with⟨a,rfl,_⟩ |⟨N,cap,cur,rfl,h2,_⟩
  · cases a<;>cases q
  · obtain rfl:=ue q;exact vS h2⟩
 exact⟨_,h1,h2,R9 D (M.mono fun _ _=>CR.fL h2) fun b i q=>.inr q⟩
def Holds (w:World) (n:Nat) (v:Value) (m:Nat) (xs:List Value):Prop:=xs.length=m*n/\ ∃a cap,v=.slice a m cap/\(m=0\/ ∃b o,a=some ⟨b,o,none⟩/\ ∀(i:Nat) u,xs[i]? =some u->w.cell? ⟨b,o+i,none⟩=some u)
theorem RS {t:Ty} {l:List (den t)} {v:Value} (F:CR c h w v (.v (.sl t) l)): ∃xs,Holds w (wid t) v l.length xs/\ay (CR c h w) xs (aT t l):=by
 obtain⟨_,a,cap,rfl,D⟩:=F;rcases D with rfl |⟨_,_,b,o,rfl,D⟩
 · exact⟨[],⟨by simp,_,_,rfl,.inl rfl⟩,.nil⟩
 · obtain⟨xs,h1,h2⟩:=(CG.flat.2 D).list;exact⟨xs,⟨by rw[h1.len,hJ],_,_,rfl,.inr ⟨b,o,rfl,fun i u hu=>(h2 i u hu).2⟩⟩,h1⟩
theorem Ts {e:TypeId} {n b:Nat} (hs:fU P ty=some (e,n,b)) (hb:b<=1000) {s x:Operand} {a:Act} {m src:Value} {len l:Nat} {xs news:List Value} (U:dZ w e n m len xs) (an:Holds w n src l news) (bx: ∀u∈news,u.oneCell'=true) (b7:len+l<=1000000000) (es:a.eval s=m) (ex:a.eval x=src)
  {N:Act->World->Prop} {Q:Exit->Act->World->Prop} (Z: ∀v' w',Ext (fun b=>dS m=some b) w w'->dZ w' e n v' (len+l) (xs++news)->(∀b,dS v'=some b->dS m=some b\/w.heap.size<=b)->(l=0->v'=m)->N (a.put dst v') w'):
  Oper.wp P ⟨dst,.call {callee:=.builtin .append,args:= #[s,x],argTypes:= #[ty,ty]},ty0,pos,af,g⟩ a w N Q:=by
 obtain⟨inf,z,hu,Y,hz,b1,av,b2,ca⟩:=pd hs;obtain⟨F,ad,cap,rfl,an⟩:=an;have fin: ∀v' w',(Builtin.append_ #[ty,ty] ty0 #[m,.slice ad l cap]).run P w=.ok v' w'->N (a.put dst v') w'->Oper.wp P ⟨dst,.call {callee:=.builtin .append,args:= #[s,x],argTypes:= #[ty,ty]},ty0,pos,af,g⟩ a w N Q:=fun v' w' hr hn=>by unfold Oper.wp execOp;simp[resolve,invoke,builtin,Sem.run_bind,Sem.run_pure,Result.andThen_ok,List.map_toArray,ay3,List.map_nil,es,ex,hr];exact hn
 by_cases h0:l=0
 · subst h0;have b8:news=[]:=aw2.1 (by rw[F,Nat.zero_mul])
   subst b8;refine fin m w ?_ (Z m w (Ext.refl _ _) (by simpa using U) (fun b q=>.inl q) fun _=>rfl)
   rcases U with⟨J,rfl,_⟩ |⟨M,ch,cur,rfl,_,ah,_⟩
   · cases J<;>cases ad<;>simp [Builtin.append_,run_underlying hu,Go.sizeOf,typeInfo,Y,Builtin.lenOf,Builtin.firstCells,loadCells,loadCellsFrom,storeCells]
   · cases ad<;>simp [Builtin.append_,run_underlying hu,Go.sizeOf,typeInfo,Y,Builtin.lenOf,Builtin.firstCells,loadCells,loadCellsFrom,ah,storeCells]
 obtain b4 |⟨bs,os,rfl,b6⟩:=an
 · exact(h0 b4).elim
 have bp: ∀(j:Nat) u,news[j]? =some u->w.cell? ((⟨bs,os,none⟩:Addr).add j)=some u:=fun j u q=>by rw[add_plain];exact b6 j u q
 have hbound:(len+l)*b<=140737488355328:=au2 (Nat.mul_le_mul b7 hb) (by decide)
 rcases U with⟨J,rfl,rfl,rfl⟩ |⟨M,D,cur,rfl,aE,a1,a6,a7,a8⟩
 · have cd:Src P inf.size ty (.slice (some ⟨bs,os,none⟩) l cap) l news w:=Src.ofSlice w hu _ _ _ _ (b1▸F) bp bx
   have hf:(Builtin.firstCells inf.size 0 (.slice J 0 0)).run P w.drew=.ok ([]:List Value).toArray w.drew:=by
    cases J with
    |none=>exact run_firstCells_none w.drew _ _ _ _
    |some b3=>exact run_firstCells_some w.drew _ _ b3 _ _ [] (by simp) (by simp)
   have ah:Builtin.nextslicecap (0+l) 0=0+l:=by unfold Builtin.nextslicecap;rw[if_pos (by omega)]
   have b0:=run_append_grow_src (P:=P) w ty ty ty0 e inf z hu Y hz J 0 0 [] hf _ l _ cd (by omega) (by omega) (by rw[ah,av];omega)
   have bb:=grownCap_ge w (0+l) 0 e;have hle:=grownCap_le_maxLen w (0+l) 0 e (by unfold maxLen;omega)
   generalize grownCap w (0+l) 0 e=D at b0 bb hle;obtain⟨D,rfl⟩: ∃q,D=q+1:=⟨D - 1,by omega⟩
   refine fin _ _ b0 (Z _ _ ((iB.tO (((Below.refl w.heap.size w).drew).alloc (ae5 _) _)).mono fun _=>False.elim) (.inr ⟨w.heap.size,D,_,rfl,heap_alloc_new w.drew _,bb,hle,?_,?_⟩) (fun b q=>.inr (by rw[ue q];exact ae5 _)) fun q=>(h0 q).elim)
   · simp[List.nil_append,Array.size_append,List.size_toArray];rw[size_zeroCells,F,b2,<-Nat.add_mul];congr 1;omega
   · simp[List.nil_append,Array.toList_append,Nat.zero_add];rw[List.take_append_of_le_length (by simp [F]),ax5 (by simp [F])]
 · have cc:w.ownsRow 0 e n (.slice (some ⟨M,0,none⟩) len (D+1)) len xs:=⟨(show dZ w e n (.slice (some ⟨M,0,none⟩) len (D+1)) len xs from .inr ⟨M,D,cur,rfl,aE,a1,a6,a7,a8⟩).len,.inr ⟨M,D+1,cur,rfl,ae6 _,aE,a1,a6,a7,a8⟩⟩
   refine wp_append_lies w s x ty rfl 0 e inf z n b hu Y hz b1 av b2 ca _ len xs es cc ⟨bs,os,none⟩ l cap news ex F bp bx (by omega) (by unfold maxLen;omega) hbound (ae6 _) w.heap.size rfl ?_
   intro g0 ar w' U O b5 cj;refine Z _ w' ⟨O.os,O.tape,O.output,O.size,fun b h1 h2=>O.block b h1 fun q=>h2 q.symm⟩ (dZ.of U) (fun b q=>?_) fun q=>(h0 q).elim;cases ar with
   |zero=>cases q
   |succ ar=>cases q;exact b5.imp id fun q=>Nat.le_of_eq q.symm
end
section
variable {R:Type} {y:R} {P:Program} {ty:TypeId} {c:Cx} {h:Hp} {w w':World} {E:cQ} {H H':aG} {σ:cG} {K:DS->aG->Option R} {dst:Option Tmp} {ty0:TypeId} {pos:String} {af:Array Edge} {g:Option (Nat×Bool)} {op:Op}
theorem LW {a:Operand->Value}: ∀{ps:List (Nat×Operand)} {l:List (Nat×DS)},F6 σ ps=some l->(∀p∈ps,∀d,bB σ p.2=some d->SR c h w (a p.2) d)->ay (fun p q=>p.1=q.1/\SR c h w p.2 q.2) (ps.map fun p=>(p.1,a p.2)) l
 |[],l,e,_=>by cases e;exact .nil
 |(i,x)::r,l,e,D=>by
  unfold F6 at e;split at e<;>try (cases e;done)
  rename_i J F;cases e;exact .cons ⟨rfl,D _ at9 _ J⟩ (LW F fun p hp=>D p (av1 _ hp))
theorem abu: ∀{ps:List (Nat×DS)} {vs:List (Nat×Value)} {pl:List (Nat×Nat)} {cl r:List DC},ay (fun p q=>p.1=q.1/\SR c h w p.2 q.2) vs ps->M4 pl cl ps=some r-> ∃D,ay (fun p q=>p.1=q.1/\ay (CR c h w) p.2.cells.toList q.2) vs D/\oe (fun i=>pl[i]?) cl D=some r
 |_,_,pl,cl,r,.nil,e=>⟨[],.nil,e⟩
 |(i,x)::ps,_::vs,pl,cl,r,.cons h1 M,e=>by
  unfold M4 at e;split at e<;>try (cases e;done)
  rename_i off size l hp J;split at e<;>try (cases e;done)
  rename_i hs;obtain⟨D,h2,F⟩:=abu M e;exact⟨(i,l)::D,.cons ⟨h1.1,v7 h1.2 J⟩ h2,by unfold oe;simp only[hp];rw[if_pos hs];exact F⟩
theorem aa6 {t:Ty}: ∀{ps:List (Nat×DS)} {vs:List (Nat×Value)} {rows pre:List (den t)},ay (fun p q=>p.1=q.1/\SR c h w p.2 q.2) vs ps->Gg t pre.length ps=some rows->
  ∃F,ay (fun p q=>p.1=q.1/\ay (CR c h w) p.2.cells.toList q.2) vs F/\oe (fun i=>some (i*wid t,wid t)) (aT t pre++List.replicate (rows.length*wid t) .dead) F=some (aT t (pre++rows))
 |_,_,rows,pre,.nil,e=>by cases e;exact⟨[],.nil,by simp [oe]⟩
 |(i,x)::ps,_::vs,rows,pre,.cons h1 Y,e=>by
  unfold Gg at e;split at e<;>try (cases e;done)
  rename_i O;split at e<;>try (cases e;done)
  rename_i a l D U;cases e;unfold acU at D;split at D<;>try (cases D;done)
  rename_i cs N;obtain⟨F,h2,M⟩:=aa6 (pre:=pre++[a]) Y (by rw[as0];exact U)
  refine⟨(i,cA t a)::F,.cons ⟨h1.1,Am D (v7 h1.2 N)⟩ h2,?_⟩;have J:(l.length+1)*wid t=wid t+l.length*wid t:=by rw[Nat.add_mul,Nat.one_mul,Nat.add_comm]
  unfold oe;simp only[List.length_cons,iR,O];rw[if_pos ⟨trivial,by simp [hJ,J]⟩]
  rw[show pre++a::l=pre++[a]++l by simp,<-M,qu,eo,iR,J,<-List.replicate_append_replicate]
  congr 1;rw[List.take_left' (by rw[hJ]),<-at8,List.drop_left' (by simp [hJ])]
  simp [aT]
theorem Ta {e:TypeId} {n b:Nat} (hs:fU P ty=some (e,n,b)) {len:Nat} (ar:len*n<=16777216) {a:Operand->Value} {parts:List (Nat×Operand)} {Q:Value->DC->Prop} {ps:List (Nat×List DC)} {r:List DC} (hp:ay (fun p q=>p.1=q.1/\ay Q p.2.cells.toList q.2) (parts.map fun p=>(p.1,a p.2)) ps) (U: ∀v,Q v .dead)
  (M:oe (fun i=>some (i*n,n)) (List.replicate (len*n) .dead) ps=some r): ∃cs:List Value,ay Q cs r/\(execOp a ⟨dst,.buildSlice ty len parts.toArray,ty0,pos,af,g⟩).run P w=.ok (.value (.slice (some ⟨w.heap.size,0,none⟩) len len)) (w.alloc (.cells cs.toArray e)):=by
 obtain⟨inf,z,hu,F,Z,Y,an,az,av⟩:=pd hs;have J: ¬(len*n>2 ^24):=by omega
 have N:(sizeOf e).run P w=.ok n w:=by simp [Go.sizeOf,typeInfo,F,Y]
 have hm:(parts.toArray.map fun(i,x)=>(i,a x)).toList=parts.map fun p=>(p.1,a p.2):=by simp
 have O: ∀l:List Value,ay Q l (List.replicate l.length .dead):=fun l=>by
  induction l with
  |nil=>exact .nil
  |cons v l ih=>exact .cons (U v) ih
 by_cases h0:len*n=0
 · obtain⟨D,f1,f2⟩:=Su hp (cells:= #[]) (cl:=List.replicate (len*n) .dead) (h0▸.nil) M;have ah: ∀f:Nat->Value,(Array.range (len*n)).map f= #[]:=fun f=>by rw[h0];apply Array.ext';simp
   refine⟨D.toList,f2,?_⟩;simp[execOp,Instr.buildSlice,run_underlying hu,N,if_neg J,if_pos h0,Sem.run_pure,ah,f1];simp [newRow,Sem.run]
 · have hzero:(zeroValue e).run P w=.ok z w:=by simp [zeroValue,typeInfo,F,Z]
   obtain⟨D,f1,f2⟩:=Su hp (cells:=(Array.range (len*n)).map (z.cells[· %z.cells.size]!)) (cl:=List.replicate (len*n) .dead) (by
    have:=O ((Array.range (len*n)).map (z.cells[· %z.cells.size]!)).toList
    grind) M
   refine⟨D.toList,f2,?_⟩;simp[execOp,Instr.buildSlice,Sem.run_bind,run_underlying hu,N,if_neg J,if_neg h0,hzero,hm,f1];simp [newRow,Sem.run]
theorem dZ.lit (w:World) {e:TypeId} {n len:Nat} {cs:List Value} (D:cs.length=len*n) (hm:len<=maxLen):dZ (w.alloc (.cells cs.toArray e)) e n (.slice (some ⟨w.heap.size,0,none⟩) len len) len cs:=by
 cases len with
 |zero=>exact .inl ⟨_,rfl,rfl,aw2.1 (by omega)⟩
 |succ len=>exact .inr ⟨_,len,_,rfl,heap_alloc_new w _,ae5 _,hm,by grind,by simp [<-D]⟩
theorem ER (w:World) (o:Obj):iB w (w.alloc o):=iB.tO ((Below.refl _ _).alloc (ae5 _) _)
theorem Conc.newRow (hC:Conc E c h w) {k:Nat} (hk:h k=none) {e:TypeId} {t:Ty} {l:List (den t)} {v:Value} {xs:List Value} (F:0<wid t) (N:Ext (fun _=>False) w w') (J:dZ w' e (wid t) v l.length xs) (D: ∀b,dS v=some b->w.heap.size<=b) (M:ay (CR c h w) xs (aT t l)):
  ∃c',Conc E c' (bY h k (some (.row [] e t l))) w'/\eN c h w c' (bY h k (some (.row [] e t l))) w'/\CR c' (bY h k (some (.row [] e t l))) w' v (.ow k 0 .all):=by
 obtain⟨c',h1,h2,O,_⟩:=hC.setRow (k:=k) (o':=.row [] e t l) (s:=false) rfl F (N.mono fun _=>False.elim) (fun b q=>.inr (D b q)) (fun q=>by cases q) (fun o q=>by rw[hk] at q;cases q) J M
 grind
theorem Yl {b p:Nat} {cs:Array Value} {e:TypeId} (D:w.heap[b]? =some (.cells cs e (0,0))) {us:List Value} (hf:p+us.length<=cs.size) (F: ∀v∈us,v.oneCell'=true):(storeCells ⟨b,p,none⟩ us).run P w=.ok () (w.setRow b (eo cs.toList p us).toArray)/\
  (w.setRow b (eo cs.toList p us).toArray).heap[b]? =some (.cells (eo cs.toList p us).toArray e (0,0))/\Ext (fun q=>q=b) w (w.setRow b (eo cs.toList p us).toArray):=by
 refine⟨?_,setRow_heap w b cs _ e _ D,rfl,rfl,rfl,by simp,fun q _ J=>setRow_other w b q _ J⟩
 rw[run_storeCells_at (P:=P) b p e us 0 cs w D (by grind) F]
 rfl
theorem wI {us:List Value} {l:List DC} (D:ay (CR c h w) us l): ∀v∈us,v.oneCell'=true:=by
 induction D with
 |nil=>grind
 |cons h1 _ F=>intro v D;rcases at3.1 D with rfl |D;exact CR.one h1;grind
theorem QJ {α:Type} {A B C us:List α} {j n:Nat} (F:n=A.length) (D:j+us.length<=B.length):eo (A++B++C) (n+j) us=A++eo B j us++C:=by
 subst F;unfold eo;rw[at8 A B C,List.take_append,List.drop_append,ax5 (by simp),aw4 (by omega),List.take_append_of_le_length (by omega),show A.length+j+us.length - A.length=j+us.length by omega,List.drop_append_of_le_length D]
 simp
theorem Conc.RI (hC:Conc E c h w) {k:Nat} {o o':aX} {hs:List (Option Nat)} {n b cap p:Nat} (hk:h k=some o) (J:cU o=some (hs,ty,n)) (M:cU o'=some (hs,ty,n)) (D:bc o'=bc o) (hm:c.m k=.slice (some ⟨b,0,none⟩) (bc o) cap) (h0:0<bc o) {us:List Value} (ah: ∀v∈us,v.oneCell'=true) (hf:p+us.length<=bc o*n)
  (hv: ∀xs,ay (CR c h w) xs (dM o)->ay (CR c h w) (eo xs p us) (dM o')): ∃c' N,(storeCells ⟨b,p,none⟩ us).run P w=.ok () N/\Conc E c' (bY h k (some o')) N/\eN c h w c' (bY h k (some o')) N:=by
 obtain⟨hn,xs,Y,hx⟩:=(hC.obj k o hk).row J;have hlen:=Y.len;rcases Y with⟨a,_,e2,_⟩ |⟨b',Z,cur,F,h2,h3,h4,h5,O⟩
 · omega
 rw[hm] at F;simp[Option.some.injEq,Addr.mk.injEq] at F;obtain⟨⟨rfl,_⟩,_,rfl⟩:=F;have an:bc o*n<=cur.toList.length:=by rw[<-hlen,<-O,at6];omega
 obtain⟨r1,r2,r3⟩:=Yl (P:=P) (p:=p) h2 (us:=us) (by grind) ah
 have U:Bl c h k b:=⟨⟨o,hk⟩,by rw[hm];rfl⟩
 have ht:(eo cur.toList p us).toArray.toList.take (bc o'*n)=eo xs p us:=by
  rw[D,List.toList_toArray];have e3:cur.toList=xs++cur.toList.drop (bc o*n):=by rw[<-O,au6]
  have:=QJ (A:=[]) (B:=xs) (C:=cur.toList.drop (bc o*n)) (j:=p) (us:=us) rfl (by omega)
  simp[List.length_nil,Nat.zero_add] at this;rw[<-e3] at this;rw[this,List.take_append_of_le_length (by rw[P6 (by omega)];omega),ax5 (by rw[P6 (by omega)];omega)]
 obtain⟨c',g1,g2,_,_⟩:=hC.setRow (k:=k) M hn (v':=c.m k) (s:=false) (r3.mono fun q e=>e▸U) (fun q e=>.inl (by rw[hm] at e;rw[ue e];exact U)) (fun q=>by cases q) (fun o1 e=>by rw[hk] at e;cases e;unfold OL;rw[J];exact⟨_,M,.inl ⟨fun g m q=>by unfold cD at q⊢;rw[J] at q;rw[M,D];exact q,.inl ⟨D,rfl⟩⟩⟩) (xs:=eo xs p us) (.inr ⟨b,Z,_,by rw[hm,D],r2,by rw[D];exact h3,h4,by rw[List.size_toArray,P6 (by omega)];grind,ht⟩) (hv xs hx)
 exact⟨c',_,r1,g1,g2⟩
end
section
variable {R:Type} {y:R} {P:Program} {ty:TypeId} {c:Cx} {h:Hp} {w w':World} {E:cQ} {H H':aG} {σ:cG} {K:DS->aG->Option R} {dst:Option Tmp} {ty0:TypeId} {pos:String} {af:Array Edge} {g:Option (Nat×Bool)} {op:Op} {v:DS}
theorem St.put {o:Oper} {k:Nat} {o':aX} (F: ∀(E:cQ) (c:Cx) (h:Hp) (w:World) (a:Act) (N:Act->World->Prop) (Q:Exit->Act->World->Prop),Conc E c h w->Sub H h->(aj H k=none->h k=none)->(∀x∈o.op.operands,∀d,bB σ x=some d->SR c h w (a.eval x) d)->
  (∀val w' c',Conc E c' (bY h k (some o')) w'->eN c h w c' (bY h k (some o')) w'->SR c' (bY h k (some o')) w' val v->N (a.put o.dst val) w')->o.wp P a w N Q):St P o σ H v (oset H k o'):=
 fun E c h w a N Q hC hs hf J D=>F E c h w a N Q hC hs (fun e=>hf k e (by rw[jh,gl];simp)) J (by rw[bC.set hs] at D;exact D)
theorem qE {o:Oper} {a:Act} {val:Value} {N:Act->World->Prop} {Q:Exit->Act->World->Prop} (F:(execOp a.eval o).run P w=.ok (.value val) w') (D:N (a.put o.dst val) w'):o.wp P a w N Q:=by unfold Oper.wp;rw[F];exact D
theorem SR.unit (c:Cx) (h:Hp) (w:World):SR c h w undef (.fk []):=⟨[],rfl,.nil⟩
theorem RJ {x z:Operand} {agg:Bool} {n b p:Nat} (hs:nB P ty=some (agg,n)) {a:Act} (J:a.eval x=.pointer (some ⟨b,p,none⟩)) (M:(a.eval z).cells.toList.length=n) {D:World} (O:(storeCells ⟨b,p,none⟩ (a.eval z).cells.toList).run P w=.ok () D)
  {N:Act->World->Prop} {Q:Exit->Act->World->Prop} (F:N (a.put dst undef) D):Oper.wp P ⟨dst,.store ty x z,ty0,pos,af,g⟩ a w N Q:=by
 have:(execOp a.eval ⟨dst,.store ty x z,ty0,pos,af,g⟩).run P w=.ok .skip D:=by simp[execOp,J,Instr.storeAt,Instr.sureAddr,storeVar,(rW hs w).2];simp_all
 unfold Oper.wp;rw[this];exact F
theorem amO {x z:Operand} {d d':DS} (hx:bB σ x=some d) (hz:bB σ z=some d') (J:MB P H ty d d' K=some y): ∃v H',K v H'=some y/\St P ⟨dst,.store ty x z,ty0,pos,af,g⟩ σ H v H':=by
 unfold MB at J;split at J<;>try (cases J;done)
 · rename_i agg n k i l hs hl;split at J<;>try (cases J;done)
   rename_i vt cells M;obtain⟨h1,h2⟩:=bL J;rw[ae7,decide_eq_true_eq,decide_eq_true_eq] at h1;refine⟨_,_,h2,St.put fun E c h w a N Q hC O _ U hN=>?_⟩;obtain⟨b,hm,ex⟩:=F5 (w:=w) O M (U x (by simp [Op.operands]) _ hx)
   have hu:=v7 (U z (by simp [Op.operands]) _ hz) hl
   have a7:=hu.len;obtain⟨b',cs,Z,e2,e3⟩:=hC.obj k _ (O _ _ M);rw[hm] at Z;injection Z with Z;injection Z with Z;cases Z;have a8:=e3.len;obtain⟨r1,r2,r3⟩:=Yl (P:=P) (p:=i) e2 (us:=(a.eval z).cells.toList) (by simp at a8;omega) (wI hu)
   have F:Bl c h k b:=⟨⟨_,O _ _ M⟩,by rw[hm];rfl⟩
   obtain⟨g1,g2⟩:=hC.put k (o':=.var vt (eo cells i l)) (c':=c) (h':=bY h k (some (.var vt (eo cells i l)))) (gl _ _ _) (fun j hj=>⟨iG hj,rfl⟩) rfl (r3.mono fun q e=>e▸F) (fun q e=>.inl ⟨F.1,e⟩) (s:=false) (fun q=>by cases q) (fun o1 e=>by rw[O _ _ M] at e;cases e;exact⟨⟨_,rfl⟩,rfl⟩) fun bb=>⟨b,_,hm,r2,by rw[List.toList_toArray];exact(e3.eo hu i).mono fun _ _=>CR.fL bb⟩
   exact RJ hs ex (by omega) r1 (hN undef _ _ g1 g2 (SR.unit _ _ _))
 · rename_i agg n k gn p l hs hl;split at J<;>try (cases J;done)
   · rename_i aE e t rows i j M;obtain⟨h1,h2⟩:=bL J;rw[ae7,decide_eq_true_eq,decide_eq_true_eq] at h1;obtain⟨q,hq,h3⟩:=aw5.1 h2;split at h3<;>try (cases h3;done)
     rename_i q' bp;refine⟨_,_,h3,St.put fun E c h w a N Q hC O _ U hN=>?_⟩;obtain⟨_,_,wd,ar,hi,b,cap,hm,ex⟩:=iJ (w:=w) O M (U x (by simp [Op.operands]) _ hx)
     injection id ar with an;simp[Prod.mk.injEq] at an;obtain⟨rfl,rfl,rfl⟩:=an;have hu:=v7 (U z (by simp [Op.operands]) _ hz) hl
     have a7:=hu.len;have az:=(av7.1 hq).1;have e4:rows=rows.take i++q::rows.drop (i+1):=by rw[<-(av7.1 hq).2,<-List.drop_eq_getElem_cons az,au6]
     have e5:rows.set i q'=rows.take i++q'::rows.drop (i+1):=by rw[List.set_eq_take_append_cons_drop,if_pos az]
     have a6:(rows.take i).length=i:=by simp;omega
     obtain⟨c',w1,r1,g1,g2⟩:=hC.RI (P:=P) (o':=.row aE e t (rows.set i q')) (p:=i*wid t+j) (us:=(a.eval z).cells.toList) (O _ _ (jG M).1) ar rfl (by simp [bc]) hm (by omega) (wI hu) (by
       have:(i+1)*wid t<=rows.length*wid t:=Nat.mul_le_mul_right _ az;rw[Nat.add_mul,Nat.one_mul] at this;simp only[bc];omega) (fun xs D=>by
      have D:ay (CR c h w) xs (aT t rows):=D;rw[e4,qu,aT,<-at8] at D;show ay (CR c h w) _ (aT t (rows.set i q'));rw[e5,qu,aT,<-at8];have bx:=D.len;have Y:=(D.take (i*wid t+wid t)).take (i*wid t);have F:=(D.take (i*wid t+wid t)).drop (i*wid t);have hc:=D.drop (i*wid t+wid t);have el:(aT t (rows.take i)++cA t q).length=i*wid t+wid t:=by rw[as0,hJ,iR,a6]
      have av:(aT t (rows.take i)).length=i*wid t:=by rw[hJ,a6]
      rw[List.take_left' el,List.take_left' av] at Y;rw[List.take_left' el,List.drop_left' av] at F;rw[List.drop_left' el] at hc;have a1:=F.len;rw[iR] at a1;have ah:=Y.len;rw[av] at ah;have:=QJ (us:=(a.eval z).cells.toList) (n:=i*wid t) (j:=j) (C:=xs.drop (i*wid t+wid t)) ah.symm (B:=(xs.take (i*wid t+wid t)).drop (i*wid t)) (by omega)
      rw[au6,au6] at this;rw[this];exact(Y.app (Am bp (F.eo hu j))).app hc)
     exact RJ hs ex (by omega) r1 (hN undef _ _ g1 g2 (SR.unit _ _ _))
   · rename_i aE e t b0 rows last j M;obtain⟨h1,h2⟩:=bL J;obtain⟨h0,h3⟩:=bL h2;simp[ae7,decide_eq_true_eq] at h1;obtain rfl:b0=false:=by grind
     refine⟨_,_,h3,St.put fun E c h w a N Q hC O _ U hN=>?_⟩;obtain⟨_,_,wd,ar,hi,b,cap,hm,ex⟩:=iJ (w:=w) O M (U x (by simp [Op.operands]) _ hx)
     injection id ar with an;simp[Prod.mk.injEq] at an;obtain⟨rfl,rfl,rfl⟩:=an;have hu:=v7 (U z (by simp [Op.operands]) _ hz) hl
     have a7:=hu.len
     obtain⟨c',w1,r1,g1,g2⟩:=hC.RI (P:=P) (o':=.bI aE e t false rows (last.take j++l++last.drop (j+l.length))) (p:=rows.length*wid t+j) (us:=(a.eval z).cells.toList) (O _ _ (jG M).1) ar rfl rfl hm (Nat.succ_pos _) (wI hu) (by show _<=(rows.length+1)*wid t;rw[Nat.add_mul,Nat.one_mul];omega) (fun xs D=>by
      have D:ay (CR c h w) xs (aT t rows++last):=D;show ay (CR c h w) _ (aT t rows++eo last j l);have Y:=D.take (rows.length*wid t);have F:=D.drop (rows.length*wid t);rw[List.take_left' (hJ rows)] at Y;rw[List.drop_left' (hJ rows)] at F;have ah:=Y.len;rw[hJ] at ah;have a1:=F.len;have:=QJ (us:=(a.eval z).cells.toList) (n:=rows.length*wid t) (j:=j) (C:=[]) ah.symm (B:=xs.drop (rows.length*wid t)) (by omega)
      rw[au6,at0,at0] at this;rw[this];exact Y.app (F.eo hu j))
     exact RJ hs ex (by omega) r1 (hN undef _ _ g1 g2 (SR.unit _ _ _))
theorem TH {d:DS} {u:Value} (D:OE d=true) (hu:SR c h w u d): ∃a,u=.slice a 0 0:=by
 unfold OE at D;split at D
 · exact hu
 · exact⟨none,hu⟩
 · grind
theorem Ub (a:Option Addr):dS (.slice a 0 0)=none:=by cases a<;>rfl
theorem Z6 {t:Ty} {d:DS} {u:Value} {more:List (den t)} (D:MX t d=some more) (hu:SR c h w u d): ∃news,Holds w (wid t) u more.length news/\ay (CR c h w) news (aT t more):=by
 unfold MX at D;split at D<;>try (cases D;done)
 · cases D;have hu:=hu;subst hu;exact⟨[],⟨by simp,_,_,rfl,.inl rfl⟩,.nil⟩
 · exact RS (uf rfl D hu)
theorem Zy {hs:List (Option Nat)} {o o':aX} {e D:TypeId} {n F m:Nat} {q:Option Nat} (h1:cU o=some (hs,e,n)) (h2:cU o'=some (hs++[some m],D,F)) (hm:m=bc o) {g:Nat} (J:cD o g=some q):cD o' g=some q:=by grind[cD]
theorem ace {t:Ty} {l:List DC} {x:den t} (he:pF (lV Nt t l)=some x) {vs:List Value} (F:ay (CR c h w) vs l):ay (CR c h w) vs (cA t x):=by
 obtain⟨J,e,h1⟩:=FL (Q:=CR c h w) (Q':=CR c h w) (fun t x d v hs D F=>by
  unfold Nt at D;split at D<;>try (cases D;done)
  split at D<;>try (cases D;done)
  rename_i e _;obtain⟨e⟩:=e;subst e;cases D;exact F) t (Fl he)
 grind
theorem abN {s x:Operand} {k O n b:Nat} {e:TypeId} (hS:fU P ty=some (e,n,b)) (hb:b<=1000) {o o':aX} {hs:List (Option Nat)} {M:DS} (aE:bB σ s=some (.c (.ow k O .all))) (a6:bB σ x=some M) (Y:rowAt H k O=some o) (D:cU o=some (hs,e,n)) (F:cU o'=some (hs++[some (bc o)],e,n)) {l:Nat} (hl:bc o'=bc o+l) (ar:bc o+l<=1000000000)
  (a1: ∀(E:cQ) c h w u,Conc E c h w->Sub H h->SR c h w u M-> ∃news,Holds w n u l news/\(∃q,ay (CR c h w) news q)/\ ∀xs,ay (CR c h w) xs (dM o)->ay (CR c h w) (xs++news) (dM o')):St P ⟨dst,.call {callee:=.builtin .append,args:= #[s,x],argTypes:= #[ty,ty]},ty0,pos,af,g⟩ σ H (.c (.ow k (hs.length+1) .all)) (oset H k o'):=
 St.put fun E c h w a N Q hC J _ Z hN=>by
  obtain⟨a8,e2,wd,a7,hm⟩:=iJ (w:=w) J Y (Z s (by simp [Op.operands,Call.operands]) _ aE)
  obtain⟨news,h1,⟨q,h2⟩,h3⟩:=a1 E c h w _ hC J (Z x (by simp [Op.operands,Call.operands]) _ a6)
  have hk:=J _ _ (jG Y).1;obtain⟨hn,xs,az,hv⟩:=(hC.obj k _ hk).row D;have U: ∀b,dS (c.m k)=some b->Bl c h k b:=fun b q=>⟨⟨o,hk⟩,q⟩;refine Ts hS hb az h1 (wI h2) ar hm rfl fun v' w' hx av ah an=>?_
  obtain⟨c',g1,g2,g3,_⟩:=hC.setRow (k:=k) F hn (hx.mono U) (fun b q=>(ah b q).imp (U b) id) (s:=false) (fun q=>by cases q) (fun o1 q=>by
   rw[hk] at q;cases q;unfold OL;rw[D];refine⟨_,F,.inl ⟨fun g n q=>Zy D F rfl q,?_⟩⟩;by_cases h0:l=0
   · exact .inl ⟨by omega,an h0⟩
   · exact .inr (by omega)) (xs:=xs++news) (hl▸av) (h3 xs hv)
  rw[as0] at g3;exact hN v' w' c' g1 g2 g3
theorem amw {cp:Bool} {s x:Operand} {d d':DS} (ah:bB σ s=some d) (ar:bB σ x=some d') (U:wF P H cp dst ty d d' K=some y): ∃v H',K v H'=some y/\St P ⟨dst,.call {callee:=.builtin .append,args:= #[s,x],argTypes:= #[ty,ty]},ty0,pos,af,g⟩ σ H v H':=by
 unfold wF at U;split at U<;>try (cases U;done)
 · rename_i e n b k gn O;obtain⟨h1,h2⟩:=bL U;simp[ae7,decide_eq_true_eq] at h1;split at h2<;>try (cases h2;done)
   · rename_i hs e' t rows ho;split at h2<;>try (cases h2;done)
     rename_i more aE;obtain⟨D,F⟩:=bL h2;simp[ae7,decide_eq_true_eq,beq_iff_eq] at D;obtain⟨rfl,rfl⟩:=D;obtain⟨h5,J⟩:=iE F;refine⟨_,_,J,abN O h1.2 ah ar ho rfl rfl (l:=more.length) (by simp [bc]) h5 fun E c h w u hC an hu=>?_⟩
     obtain⟨news,g1,g2⟩:=Z6 aE hu;exact⟨news,g1,⟨_,g2⟩,fun xs M=>by show ay _ _ (aT t (rows++more));rw[qu];exact M.app g2⟩
   · rename_i hs e' t b' rows last q ho;split at h2<;>try (cases h2;done)
     rename_i x' bb;obtain⟨D,F⟩:=bL h2;simp[ae7,decide_eq_true_eq,beq_iff_eq] at D;obtain⟨⟨rfl,rfl⟩,hq⟩:=D;obtain⟨h5,J⟩:=iE F;refine⟨_,_,J,abN O h1.2 ah ar ho rfl rfl (l:=1) (by cases b'<;>simp [bc]) (by cases b'<;>simp [bc]<;>omega) fun E c h w u hC an hu=>?_⟩
     obtain⟨b,o,cap,rfl,_,_,hl⟩:=hu;have hg:CG c h w (Fz c.A w b o) (q.map Ud):=fun i u0 hz=>by rw[az5] at hz;obtain⟨lc,e1,e2⟩:=Option.map_eq_some_iff.1 hz;subst e2;obtain⟨u,f1,f2⟩:=hl i lc e1;exact⟨u,f1,by cases lc<;>exact f2⟩
     obtain⟨news,g1,g2⟩:=hg.list;refine⟨news,⟨by rw[g1.len,ae4,hq,Nat.one_mul],_,_,rfl,.inr ⟨b,o,rfl,fun i u hu=>(g2 i u hu).2⟩⟩,⟨_,g1⟩,fun xs M=>?_⟩
     show ay _ _ (aT t (cond b' [] (rows++[x']))++q.map Ud);refine ay.app ?_ g1;cases b' with
     |true=>exact M
     |false=>have M:ay (CR c h w) xs (aT t rows++last):=M;show ay _ _ (aT t (rows++[x']));rw[qu];have ha:=M.take (aT t rows).length;have hb:=M.drop (aT t rows).length;rw[List.take_left] at ha;rw[List.drop_left] at hb;rw[<-au6 (aT t rows).length xs];exact ha.app (by simpa[aT] using ace bb hb)
 · rename_i e n b O bp;obtain⟨h1,h2⟩:=bL U;simp[ae7,decide_eq_true_eq] at h1;have a7: ∀{a:Option Addr} {w:World},dZ w e n (.slice a 0 0) 0 []:=fun{a w}=>.inl ⟨a,rfl,rfl,rfl⟩;have a1: ∀{a:Option Addr} {w w':World},Ext (fun b=>dS (.slice a 0 0)=some b) w w'->iB w w':=fun hx=>hx.mono fun b q=>by rw[Ub] at q;cases q
   have a6: ∀{a:Option Addr} {v:Value} {w:World},(∀b,dS v=some b->dS (.slice a 0 0)=some b\/w.heap.size<=b)-> ∀b,dS v=some b->w.heap.size<=b:=fun hb b q=>(hb b q).resolve_left fun z=>by rw[Ub] at z;cases z
   split at h2<;>try (cases h2;done)
   · rename_i t more _ _;obtain⟨D,F⟩:=bL h2;obtain rfl:=eq_of_beq D;obtain⟨h5,J⟩:=iE F;refine⟨_,_,J,fun E c h w a N Q hC an _ Z hN=>?_⟩;rw[bC.self an] at hN;obtain⟨az,ez⟩:=TH h1.1 (Z s (by simp [Op.operands,Call.operands]) _ ah)
     obtain⟨news,g1,g2⟩:=RS (Z x (by simp [Op.operands,Call.operands]) _ ar)
     refine Ts O h1.2 a7 g1 (wI g2) (by omega) ez rfl fun v' w' hx Y av a8=>?_
     rw[Nat.zero_add,List.nil_append] at Y;obtain⟨c',f1,f2,f3⟩:=hC.frozen (a1 hx) Y (a6 av) g2;exact hN v' w' c' f1 f2 f3
   · rename_i d t _ ht;split at h2<;>try (cases h2;done)
     rename_i more aE;obtain⟨D,F⟩:=bL h2;obtain rfl:=eq_of_beq D;obtain⟨h5,J⟩:=iE F;obtain⟨h7,h8⟩:=bL J;refine⟨_,_,h8,St.put fun E c h w a N Q hC an hf Z hN=>?_⟩;obtain⟨az,ez⟩:=TH h1.1 (Z s (by simp [Op.operands,Call.operands]) _ ah)
     obtain⟨news,g1,g2⟩:=Z6 aE (Z x (by simp [Op.operands,Call.operands]) _ ar)
     obtain⟨_,_,_,_,_,_,_,_,hn⟩:=pd O;refine Ts O h1.2 a7 g1 (wI g2) (by omega) ez rfl fun v' w' hx Y av a8=>?_
     rw[Nat.zero_add,List.nil_append] at Y;obtain⟨c',f1,f2,f3⟩:=hC.newRow (hf (by simpa[kt] using h7)) hn (a1 hx) Y (a6 av) g2
     exact hN v' w' c' f1 f2 f3
end
section
variable {R:Type} {y:R} {P:Program} {ty:TypeId} {c:Cx} {h:Hp} {w w':World} {E:cQ} {H H':aG} {σ:cG} {K:DS->aG->Option R} {dst:Option Tmp} {ty0:TypeId} {pos:String} {af:Array Edge} {g:Option (Nat×Bool)} {op:Op} {v:DS}
theorem am0 {x:Operand} {lo Z:Option Operand} {d:DS} {b2 b1:Option DS} (a7:bB σ x=some d) (hl:xP σ lo=some b2) (hh:xP σ Z=some b1) (J:wH P H ty d b2 b1 K=some y): ∃v H',K v H'=some y/\St P ⟨dst,.slice ty x lo Z none,ty0,pos,af,g⟩ σ H v H':=by
 have a1: ∀z∈lo,z∈(Op.slice ty x lo Z none).operands:=fun z D=>by have D:lo=some z:=D;subst D;simp [Op.operands]
 have aE: ∀z∈Z,z∈(Op.slice ty x lo Z none).operands:=fun z D=>by have D:Z=some z:=D;subst D;simp [Op.operands]
 have a8:x∈(Op.slice ty x lo Z none).operands:=by simp [Op.operands]
 unfold wH at J;split at J<;>try (cases J;done)
 · rename_i t rows e n b hs;split at J<;>try (cases J;done)
   rename_i l k bp bb;obtain⟨h1,h2⟩:=bL J;obtain rfl:=eq_of_beq h1;obtain⟨⟨M,h4,h5⟩,h6⟩:=iE h2;have O:k.toNat<=rows.length:=by omega
   exact⟨_,_,h6,St.val fun E c h w a hC U F=>aqZ hs (F x a8 _ a7) (vn hl bp M fun z D=>F z (a1 z D)) (vn hh bb (by omega) fun z D=>F z (aE z D)) (by omega) O⟩
 · rename_i s;split at J<;>try (cases J;done)
   rename_i l k bp bb;obtain⟨h1,h2⟩:=bL J;obtain⟨⟨M,h4,h5⟩,h6⟩:=iE h2;have O:k.toNat<=List.length s:=by omega
   exact⟨_,_,h6,St.val fun E c h w a hC U F=>⟨_,aoy h1 (show a x=_ from(F x a8 _ a7).2.symm) (vn hl bp M fun z D=>F z (a1 z D)) (vn hh bb (by omega) fun z D=>F z (aE z D)) (by omega) O,rfl,rfl⟩⟩
 · rename_i k gn e n b hs;split at J<;>try (cases J;done)
   · rename_i az e' t l kd i ho;obtain⟨h1,h2⟩:=bL J;obtain⟨M,h4⟩:=iE h2;obtain⟨i,rfl⟩: ∃j:Nat,i=j:=⟨Int.toNat i,(ax4 M.1).symm⟩;have h5:=az1.1 M.2.1;refine⟨_,_,h4,St.val fun E c h w a hC U F=>?_⟩;obtain⟨b4,e2,wd,ah,hm⟩:=iJ (w:=w) U ho (F x a8 _ a7);obtain⟨_,xs,bx,_⟩:=(hC.obj k _ (U _ _ (jG ho).1)).row ah;have hw:=eq_of_beq h1;injection id ah with av;simp[Prod.mk.injEq] at av;rcases bx with⟨_,_,h0,_⟩ |⟨Y,cap,cur,e1,_,O,_⟩
     · have:=M.2.2;simp only[bc] at h0;omega
     · have ar:=vn hl (l:=i) (d:=0) rfl (by omega) fun z D=>F z (a1 z D)
       have an:=vn hh (l:=l.length) (d:=l.length) rfl (by omega) fun z D=>F z (aE z D)
       simp[as1] at ar an;have O:l.length<=cap+1:=O;refine⟨_,To hs (a:=a) (ad:=some ⟨Y,0,none⟩) (len:=l.length) (cap:=cap+1) (by rw[show a x=c.m k from hm];exact e1) ar an h5 O,AK (w:=w) U ho rfl fun hs e b5 b0=>?_⟩
       rw[ah] at b0;simp[Option.some.injEq,Prod.mk.injEq] at b0;refine⟨h5,M.2.2,Y,_,e1,?_⟩;rw[<-b0.2.2,<-av.2.2,hw,as1];split<;>simp [add_plain,bc]
   · rename_i az e' t l kd i ho;obtain⟨h1,h2⟩:=bL J;rw[ae7] at h1;obtain⟨M,h4⟩:=iE h2;obtain⟨i,rfl⟩: ∃j:Nat,i=j:=⟨Int.toNat i,(ax4 M.1).symm⟩;have h5:=az1.1 M.2.1;refine⟨_,_,h4,St.put fun E c h w a N Q hC U _ F hN=>?_⟩;obtain⟨b4,e2,wd,ah,hm⟩:=iJ (w:=w) U ho (F x a8 _ a7);have hk:=U _ _ (jG ho).1;obtain⟨hn,xs,bx,hv⟩:=(hC.obj k _ hk).row ah;injection id ah with av;simp[Prod.mk.injEq] at av;obtain⟨rfl,rfl,rfl⟩:=av;rcases bx with⟨_,_,h0,_⟩ |⟨Y,cap,cur,e1,h6,O,h8,h9,b3⟩
     · have:=M.2.2;simp only[bc] at h0;omega
     have O:l.length<=cap+1:=O;have ar:=vn hl (l:=0) (d:=0) rfl (by omega) fun z D=>F z (a1 z D)
     have an:=vn hh (l:=i) (d:=l.length) rfl (by omega) fun z D=>F z (aE z D)
     simp[as1] at ar an;have hB:Bl c h k Y:=⟨⟨_,hk⟩,by rw[e1];rfl⟩
     have a6:(l.take i).length=i:=by rw[at6];omega
     have hmul:i*wid t<=l.length*wid t:=Nat.mul_le_mul_right _ h5
     obtain⟨c',f1,f2,f3,_⟩:=hC.setRow (k:=k) (o':=.row (List.replicate (az.length+1) none) e' t (l.take i)) (w':=w) (v':=.slice (some ⟨Y,0,none⟩) i (cap+1)) rfl hn (Ext.refl _ _) (fun b q=>.inl (ue q▸hB)) (s:=true) (fun _=>by
       cases hE:E.H k with
       |none=>rfl
       |some o=>have:=(hC.fV k o hE).1;have h1:=h1.2;simp[aw1,Nat.blt_eq,Nat.ble_eq] at h1;omega) (fun o q=>by
       rw[hk] at q;cases q;refine⟨_,rfl,.inr ⟨rfl,fun g m q=>?_⟩⟩;have:=(av7.1 (show(az++[some l.length])[g]? =some m from q)).1
       rw[as0] at this;show(List.replicate (az.length+1) none++[some (l.take i).length])[g]? =some none;have hg:g<az.length+1:=this;rw[ax8 (by grind),List.getElem?_replicate,if_pos hg]) (xs:=xs.take (i*wid t)) (.inr ⟨Y,cap,cur,by simp [bc,a6],h6,by simp[bc,a6];omega,h8,h9,by
       rw[<-b3,List.take_take];show _=List.take (min (i*wid t) (l.length*wid t)) _;rw[Nat.min_eq_left hmul];show List.take ((l.take i).length*wid t) _=_;rw[a6]⟩) (by
      have hv:ay (CR c h w) xs (aT t l):=hv;have:=hv.take (i*wid t);have e4:aT t l=aT t (l.take i)++aT t (l.drop i):=by rw[<-qu,au6]
      rw[e4,List.take_left' (by rw[hJ,a6])] at this
      exact this)
     refine qE (To hs (a:=a.eval) (ad:=some ⟨Y,0,none⟩) (len:=l.length) (cap:=cap+1) (by rw[show a.eval x=c.m k from hm];exact e1) ar an (ae6 _) (by omega)) (hN _ _ c' f1 f2 ?_)
     simp[Int.toNat_zero,as1,Nat.zero_mul,av9,add_plain,Nat.add_zero,Nat.sub_zero,Nat.succ_ne_zero,if_false];rw[ay4] at f3;exact f3
theorem PY {t:Ty} {q:den t} {us:List Value} (hu:ay (CR c h w) us (cA t q)): ∀m,ay (CR c h w) (List.replicate m us).flatten (aT t (List.replicate m q))
 |0=>.nil
 |m+1=>by rw[az9];exact hu.app (PY hu m)
theorem Qs {z:Array Value} (F:0<z.size): ∀m:Nat,(List.range (m*z.size)).map (fun i=>z[i %z.size]!)=(List.replicate m z.toList).flatten
 |0=>by simp
 |m+1=>by
  rw[az9,List.flatten_cons,<-Qs F m,Nat.add_mul,Nat.add_comm,List.range_add,at4,List.map_map];congr 1
  · apply List.ext_getElem (by simp)
    intro i h1 h2;have D:i<z.size:=by grind
    simp [Nat.mod_eq_of_lt D,D]
  · simp
theorem Zt {e:TypeId} {t:Ty} {q:den t} (D:MR P e t=some q) {inf:TypeInfo} {z:Value} (F:P.info? e=some inf) (M:inf.zero=some z):ay (CR c h w) z.cells.toList (cA t q):=by
 unfold MR vf at D;rw[F] at D;simp[M] at D;split at D<;>try (cases D;done)
 rename_i J _;exact Am D (AG J)
theorem an8 {x:Operand} {d:DS} (bp:bB σ x=some d) (F:MN P H ty d K=some y): ∃v H',K v H'=some y/\St P ⟨dst,.call {callee:=.builtin .clear,args:= #[x],argTypes:= #[ty]},ty0,pos,af,g⟩ σ H v H':=by
 unfold MN at F;split at F<;>try (cases F;done)
 rename_i e n b k gn i hS;split at F<;>try (cases F;done)
 rename_i ar Y t l ho;split at F<;>try (cases F;done)
 rename_i q hq;obtain⟨h1,h2⟩:=bL F;obtain rfl:=eq_of_beq h1;refine⟨_,_,h2,St.put fun E c h w a N Q hC av _ a6 Z=>?_⟩;obtain⟨b5,e2,wd,an,M,h4,b',cap,hm,ex⟩:=iJ (w:=w) av ho (a6 x (by simp [Op.operands,Call.operands]) _ bp)
 injection id an with aE;simp[Prod.mk.injEq] at aE;obtain⟨rfl,rfl,rfl⟩:=aE;obtain⟨inf,z,hu,az,hz,b6,b3,b7,b4⟩:=pd hS;have b0:=Zt (c:=c) (h:=h) (w:=w) hq az hz;have hlen:bc (.row ar Y t (l.take i++List.replicate (l.length - i) q))=bc (.row ar Y t l):=by have M:i<=l.length:=M;simp [bc];omega
 have b1: ∀w:World,(zeroValue e).run P w=.ok z w:=fun w=>by simp [Go.zeroValue,typeInfo,az,hz]
 have U:=PY b0 (l.length - i);have e3:(Builtin.zeroCells z.cells (l.length - i)).toList=(List.replicate (l.length - i) z.cells.toList).flatten:=by rw[<-Qs (by omega)];simp [Builtin.zeroCells]
 rw[<-e3] at U;have a1:=U.len;rw[hJ,ay4] at a1;have M:i<=l.length:=M;have hmul:i*wid t+(l.length - i)*wid t=l.length*wid t:=by rw[<-Nat.add_mul];congr 1;omega
 obtain⟨c',w1,J,g1,g2⟩:=hC.RI (P:=P) (o':=.row ar Y t (l.take i++List.replicate (l.length - i) q)) (p:=i*wid t) (us:=(Builtin.zeroCells z.cells (l.length - i)).toList) (av _ _ (jG ho).1) an rfl hlen hm h4 (wI U) (by rw[a1,hmul];exact ae5 _) (fun xs O=>by
  have O:ay (CR c h w) xs (aT t l):=O;show ay _ _ (aT t (l.take i++List.replicate (l.length - i) q));have a8:(l.take i).length=i:=by rw[at6];omega
  have:=O.take (i*wid t);have e4:aT t l=aT t (l.take i)++aT t (l.drop i):=by rw[<-qu,au6]
  rw[e4,List.take_left' (by rw[hJ,a8])] at this
  rw[qu];have bx:=O.len;rw[hJ] at bx;unfold eo;rw[aw4 (by omega),at0]
  exact this.app U)
 have Z:=Z (.tuple #[]) _ _ g1 g2 (SR.unit _ _ _);obtain⟨_,xs,a7,_⟩:=(hC.obj k _ (av _ _ (jG ho).1)).row an
 have sx:l.length<=cap:=by
  rcases a7 with⟨_,D,_⟩ |⟨b2,cp,cur,D,_,h7,_⟩
  · rw[hm] at D;injection D with _ D;simp only[bc] at D h4;omega
  · rw[hm] at D;injection D with _ D e2;simp[bc] at h7;omega
 refine qE (val:=.tuple #[]) (w':=w1) ?_ Z;have ex:a.eval x=.slice (some ⟨b',if cap=i then 0 else i*wid t,none⟩) (l.length - i) (cap - i):=ex
 cases ah:l.length - i with
 |zero=>
  rw[ah] at J ex;have e0:(Builtin.zeroCells z.cells 0).toList=[]:=by simp [Builtin.zeroCells]
  rw[e0] at J;have bb:w1=w:=by simp [storeCells] at J;exact J.symm
  subst bb;simp [execOp,resolve,invoke,builtin,Builtin.clear_,ex,run_underlying hu]
 |succ m=>
  rw[if_neg (by omega),ah] at ex
  rw[ah] at J;simp [execOp,resolve,invoke,builtin,Builtin.clear_,ex,run_underlying hu,b1,J]
end
section
variable {R:Type} {y:R} {P:Program} {ty:TypeId} {c:Cx} {h:Hp} {w w':World} {E:cQ} {H H':aG} {σ:cG} {K:DS->aG->Option R} {dst:Option Tmp} {ty0:TypeId} {pos:String} {af:Array Edge} {g:Option (Nat×Bool)} {op:Op} {v:DS}
theorem ari {u:Value} {x:Sum DC (List DC)} (hu:UR c h w u x):SR c h w u (VA x):=by cases x<;>exact hu
theorem alO {l:List (Nat×Nat)} {z:List Value} (hs:VB P ty=some (l,z)): ∃D,P.underlying ty=some (.struct D)/\vf P ty=some z/\ ∀w,(D.mapM fun f=>do pure (f.offset,<-sizeOf f.type):Sem (Array (Nat×Nat))).run P w=.ok l.toArray w:=by
 unfold VB at hs;split at hs<;>try (cases hs;done)
 rename_i D U hu M;split at hs<;>try (cases hs;done)
 rename_i F;injection hs with hs;injection hs with h1 h2;subst h1;subst h2;refine⟨D,hu,M,fun w=>?_⟩
 have key: ∀fl:List Field,(fl.all fun f=>(P.info? f.type).isSome)=true->(fl.mapM fun f=>do pure (f.offset,<-sizeOf f.type):Sem (List (Nat×Nat))).run P w=.ok (fl.map fun f=>(f.offset,((P.info? f.type).map (·.size)).getD 0)) w:=by
  intro fl
  induction fl with
  |nil=>simp
  |cons f t O=>
   intro hf;rw[av4,ae7] at hf;obtain⟨i,J⟩:=ax3.1 hf.1;have N:(sizeOf f.type).run P w=.ok i.size w:=by simp [Go.sizeOf,typeInfo,J]
   simp_all
 rw[Array.mapM_eq_mapM_toList];simp only[map_eq_pure_bind,Sem.run_bind,key D.toList F,Result.andThen_ok,Sem.run_pure]
theorem SB {a:Operand->Value}: ∀{xs:List Operand} {l:List DC},Gn σ xs=some l->(∀x∈xs,∀d,bB σ x=some d->SR c h w (a x) d)->ay (CR c h w) (xs.map a) l
 |[],l,e,_=>by cases e;exact .nil
 |x::r,l,e,D=>by
  unfold Gn at e;split at e<;>try (cases e;done)
  rename_i J F;cases e;exact .cons (D x at9 _ J) (SB F fun z M=>D z (av1 _ M))
theorem ab5: ∀{l:List DC} {q:List LC} {us:List Value},uv l=some q->ay (CR c h w) us l-> ∀(i:Nat) u x,us[i]? =some u->q[i]? =some x->LCR c.A w u x
 |[],q,_,e,.nil=>by intro i u x hu;grind
 |U::r,q,N::us,e,.cons h1 M=>by
  unfold uv at e;split at e<;>try (cases e;done)
  rename_i a O D J;cases e;intro i u x hu F;cases i with
  |succ i=>exact ab5 J M i u x hu F
  |zero=>
   injection hu with hu;injection F with F;subst hu;subst F;unfold ac3 at D;split at D<;>try (cases D;done)
   · split at D<;>try (cases D;done)
     cases D;exact h1
   · cases D;exact⟨rfl,(show N=_ from h1).symm⟩
   · cases D;exact h1
theorem Tc: ∀{l:List DC} {q:List LC},uv l=some q->q.length=l.length
 |[],q,e=>by cases e;rfl
 |x::r,q,e=>by
  unfold uv at e;split at e<;>try (cases e;done)
  rename_i D;cases e;simp [Tc D]
theorem arv {s:aI} {ow li:Bool} (D:xM P s ow li dst op K=some y): ∃v H',K v H'=some y/\St P ⟨dst,op,ty0,pos,af,g⟩ s.sl s.hp v H':=by
 unfold xM at D;split at D<;>try (cases D;done)
 · obtain⟨v,h1,h2⟩:=eG D;exact⟨v,_,h2,St.val fun E c h w a _ _ F=>⟨_,rfl,F _ (by simp [Op.operands]) _ h1⟩⟩
 · obtain⟨v,h1,h2⟩:=eG D;exact⟨v,_,h2,St.val fun E c h w a _ _ F=>⟨_,rfl,F _ (by simp [Op.operands]) _ h1⟩⟩
 · obtain⟨v,h1,h2⟩:=eG D;obtain⟨u,J,M⟩:=ao6 h2;exact⟨u,_,J,st1 h1 M (by simp [Op.operands]) fun a w z e=>by simp[execOp,Sem.run_bind,e,Result.andThen_ok,Sem.run_pure]⟩
 · obtain⟨v,h1,h2⟩:=eG D;obtain⟨u,J,M⟩:=ajf h2;exact⟨u,_,J,st1 h1 M (by simp [Op.operands]) fun a w z e=>by simp[execOp,Sem.run_bind,e,Result.andThen_ok,Sem.run_pure]⟩
 · obtain⟨v,h1,h2⟩:=eG D;obtain⟨v',ah,h2⟩:=eG h2;obtain⟨u,J,M⟩:=aje h2;exact⟨u,_,J,st2 h1 ah M (by simp [Op.operands]) (by simp [Op.operands]) fun a w z e=>by simp only[execOp,Sem.run_bind,e,Result.andThen_ok,Sem.run_pure]⟩
 · obtain⟨v,h1,h2⟩:=eG D;obtain⟨v',ah,h2⟩:=eG h2;obtain⟨u,J,M⟩:=aq1 h2;refine⟨u,_,J,St.val fun E c h w a _ O F=>?_⟩;obtain⟨z,Y,U,e3⟩:=M _ _ ⟨c,h,w,O,F _ (by simp [Op.operands]) _ h1,F _ (by simp [Op.operands]) _ ah⟩
   exact⟨z,by simp only[execOp,Sem.run_bind,Y,U,Result.andThen_ok,Sem.run_pure],e3 c h w⟩
 · obtain⟨v,h1,h2⟩:=eG D;unfold unD at h2;split at h2<;>try (cases h2;done)
   · refine⟨_,_,h2,St.val fun E c h w a _ O F=>?_⟩;have e:_=a _:=(F _ (by simp [Op.operands]) _ h1).2
     exact⟨_,by simp [execOp,<-e,Op.unary],rfl,rfl⟩
   · refine⟨_,_,h2,St.val fun E c h w a _ O F=>?_⟩;have e:a _=_:=F _ (by simp [Op.operands]) _ h1
     exact⟨_,by simp [execOp,e,Op.unary],rfl⟩
   · obtain⟨J,M⟩:=iE h2;refine⟨_,_,M,St.val fun E c h w a _ O F=>?_⟩;have e:_=a _:=(F _ (by simp [Op.operands]) _ h1).2
     exact⟨_,by simp only[execOp,<-e,Op.unary,Op.intArith,Zv J];rfl,rfl,rfl⟩
   · refine⟨_,_,h2,St.val fun E c h w a _ O F=>?_⟩;have e:_=a _:=(F _ (by simp [Op.operands]) _ h1).2
     exact⟨_,by simp only[execOp,<-e,Op.unary,intBits_xor];rfl,rfl,rfl⟩
 · obtain⟨v,h1,h2⟩:=eG D;unfold acM at h2;split at h2<;>try (cases h2;done)
   · split at h2<;>try (cases h2;done)
     rename_i k' hk;obtain⟨J,M⟩:=bL h2;obtain⟨d,c3⟩:=ax3.1 J;unfold ac6 at hk;split at hk<;>try (cases hk;done)
     rename_i D;cases hk;refine⟨_,_,M,St.val fun E c h w a _ O F=>?_⟩;have e:_=a _:=(F _ (by simp [Op.operands]) _ h1).2
     refine⟨_,?_,rfl,rfl⟩;simp only[execOp,<-e,convert,Sem.run_bind,run_underlying c3,run_underlying D,Result.andThen_ok];simp [Conv.intToInt]
   · obtain⟨J,M⟩:=bL h2;rw[ae7] at J;refine⟨_,_,M,St.val fun E c h w a _ O F=>?_⟩;have e:_=a _:=(F _ (by simp [Op.operands]) _ h1).2
     refine⟨_,?_,rfl,rfl⟩;simp only[execOp,<-e,convert,Sem.run_bind,run_underlying (FM J.1),run_underlying (FM J.2),Result.andThen_ok,Sem.run_pure]
 · obtain⟨v,h1,h2⟩:=eG D;split at h2<;>try (cases h2;done)
   obtain⟨J,M⟩:=bL h2;refine⟨_,_,M,St.val fun E c h w a _ O F=>?_⟩;have hv:=F _ (by simp [Op.operands]) _ h1
   obtain⟨ad,e⟩:=abc O J hv;exact⟨_,by simp [execOp,e],e▸hv⟩
 · obtain⟨v,h1,h2⟩:=eG D;split at h2<;>try (cases h2;done)
   rename_i off n agg l hf;obtain⟨J,M⟩:=bL h2;rw[ae7,decide_eq_true_eq] at J;obtain⟨fs,d,hu,a8,h5,h6,h7⟩:=ab9 hf;refine⟨_,_,M,St.val fun E c h w a _ O F=>?_⟩;obtain⟨vs,e,hv⟩:=F _ (by simp [Op.operands]) _ h1
   refine⟨_,?_,ZB J.1 J.2 hv⟩;have hl:=hv.len;cases agg with
   |true=>simp only[execOp,e,Instr.field,Sem.run_bind,run_underlying hu,Result.andThen_ok,a8,asAgg,Sem.run_pure,part,(rW h6 w).1,if_true,(rW h6 w).2,h5];simp [List.take_drop,Nat.add_sub_cancel_left]
   |false=>
    have h8:n=1:=by simpa using J.1
    subst h8;have b8:off<vs.length:=by omega
    simp only[execOp,e,Instr.field,Sem.run_bind,run_underlying hu,Result.andThen_ok,a8,asAgg,Sem.run_pure,part,(rW h6 w).1,h5];simp [b8,List.head?_take,List.head?_drop]
 · obtain⟨v,h1,h2⟩:=eG D;split at h2<;>try (cases h2;done)
   split at h2<;>try (cases h2;done)
   rename_i u hu;refine⟨_,_,h2,St.val fun E c h w a _ O F=>?_⟩;obtain⟨vs,e,hv⟩:=F _ (by simp [Op.operands]) _ h1
   obtain⟨z,Y,U⟩:=hv.get hu;exact⟨z,by simp [execOp,e,Instr.extract,Y],ari U⟩
 · rename_i ty ps;split at D<;>try (cases D;done)
   rename_i l pl z hl c4;split at D<;>try (cases D;done)
   rename_i zs ar;split at D<;>try (cases D;done)
   rename_i r hr;obtain⟨fs,hu,hz,cj⟩:=alO c4;refine⟨_,_,D,St.val fun E c h w a _ O F=>?_⟩;obtain⟨zv,aE,a1,_⟩:=Tr hz w;obtain⟨qs,q1,q2⟩:=abu (LW (a:=a) hl fun p hp=>F p.2 (by simp [Op.operands];exact⟨p.1,by simpa using hp⟩)) hr
   obtain⟨b3,f1,f2⟩:=Su q1 (cells:=zv.cells) (by rw[aE];exact AG ar) q2
   refine⟨.agg b3,?_,_,by rw[Array.toArray_toList],f2⟩
   have hm:(ps.map fun(i,x)=>(i,a x)).toList=ps.toList.map fun p=>(p.1,a p.2):=by simp
   have hg:(fun i:Nat=>(pl.toArray[i]? :Option (Nat×Nat)))=fun i=>pl[i]? :=by funext i;simp
   simp only[execOp,Instr.build,Sem.run_bind,a1,Result.andThen_ok,run_underlying hu,cj,hm,hg,f1];simp [Result.andThen]
 · obtain⟨v,h1,h2⟩:=eG D;split at h2<;>try (cases h2;done)
   exact am0 h1 (by assumption) (by assumption) h2
 · rename_i ty x0 x1 x2;obtain⟨v,h1,k0⟩:=eG D;obtain⟨v1,k1,k3⟩:=eG k0;obtain⟨v2,k2,h2⟩:=eG k3;split at h2<;>try (cases h2;done)
   obtain⟨J,M⟩:=bL h2;rw[ae7] at J;obtain⟨h5,h6⟩:=iE M;obtain⟨e,n,b,hs⟩:=Tw J.1;obtain⟨inf,z,hu,an,_,av,_⟩:=pd hs;refine⟨_,_,h6,St.val fun E c h w a _ O F=>?_⟩;have Y:=int_eq (F x1 (by simp [Op.operands]) _ k1)
   have U:=int_eq (F x2 (by simp [Op.operands]) _ k2)
   have hv:=F x0 (by simp [Op.operands]) _ h1
   have c5: ∃ad len cap,a x0=.slice ad len cap:=by
    have h7:=J.2;split at h7<;>try (cases h7;done)
    · obtain⟨_,_,_,e,_⟩:=hv;exact⟨_,_,_,e.symm⟩
    · exact⟨_,_,_,hv⟩
    · obtain⟨_,e⟩:=hv;exact⟨_,_,_,e⟩
   obtain⟨ad,len,cap,e3⟩:=c5;have cx:(sizeOf e).run P w=.ok n w:=by simp [Go.sizeOf,typeInfo,an,av]
   have hb: ∀(kd:IntKind) (q:Nat) (cd:BoundsCode),(Instr.sliceBound (.int kd 0) q cd).run P w=.ok 0 w:=fun kd q cd=>by simp [Instr.sliceBound,asIntOf]
   rw[h5.1] at Y;rw[h5.2] at U;exact⟨.slice ad 0 0,by simp only[execOp,Instr.sliceAt,Sem.run_bind,run_underlying hu,Result.andThen_ok,e3,Instr.slice,Instr.sliceBounds,Option.map_none,av9,Sem.run_pure,cx,if_true,Y,U,hb],ad,rfl⟩
 · obtain⟨v,h1,h2⟩:=eG D;obtain⟨v',ah,h2⟩:=eG h2;obtain⟨u,J,M⟩:=anH h2;exact⟨u,_,J,st2 h1 ah M (by simp [Op.operands]) (by simp [Op.operands]) fun a w z e=>by simp only[execOp,Sem.run_bind,e,Result.andThen_ok,Sem.run_pure]⟩
 · rename_i x0 x1 x2;obtain⟨v,h1,h2⟩:=eG D;obtain⟨v1,k1,J⟩:=eG h2;obtain⟨v2,k2,M⟩:=eG J
   have key: ∀{b:Bool},(∀c h w u,SR c h w u v->u=.bool b)->K (if b then v1 else v2) s.hp=some y-> ∃v H',K v H'=some y/\St P ⟨dst,.pick x0 x1 x2,ty0,pos,af,g⟩ s.sl s.hp v H':=fun{b} hb hk=>
    ⟨_,_,hk,St.val fun E c h w a _ O F=>⟨if b then a x1 else a x2,by simp [execOp,hb c h w _ (F _ (by simp [Op.operands]) _ h1),asBool],by
     split
     · exact F _ (by simp [Op.operands]) _ k1
     · exact F _ (by simp [Op.operands]) _ k2⟩⟩
   split at M<;>try (cases M;done)
   · split at M
     · exact key (b:=true) (fun _ _ _ _ e=>e) M
     · exact key (b:=false) (fun _ _ _ _ e=>e) M
   · rename_i b;refine key (b:=b) (fun _ _ _ _ e=>e.2.symm) ?_;cases b<;>exact M
 · obtain⟨v,h1,h2⟩:=eG D;split at h2<;>try (cases h2;done)
   rename_i u hu hn;unfold Z0 at hn;split at hn<;>try (cases hn;done)
   rename_i dd cc b1;refine⟨_,_,h2,St.val fun E c h w a _ O F=>⟨_,?_,rfl,rfl⟩⟩;have e:=sc (F _ (by simp [Op.operands]) _ h1) hu
   simp only[execOp,e,Instr.makeInterface,Sem.run_bind,run_underlying b1,Result.andThen_ok];cases dd<;>first |rfl |exact(cc _ b1).elim
 · rename_i f fs cs;split at D<;>try (cases D;done)
   rename_i A B hA hB;refine⟨_,_,D,St.val fun E c h w a _ O F=>⟨.func (.func f) (fs.map a) (cs.map a),by simp [execOp,Instr.makeFunc],fs.toList.map a,cs.toList.map a,by cases fs;cases cs;simp,?_⟩⟩
   exact⟨SB hA fun x hx=>F x (by simp [Op.operands];exact .inl (by simpa using hx)),SB hB fun x hx=>F x (by simp [Op.operands];exact .inr (by simpa using hx))⟩
 · split at D<;>try (cases D;done)
   rename_i d z hz;split at D<;>try (cases D;done)
   rename_i l hl;obtain⟨h1,h2⟩:=bL D;refine⟨_,_,h2,St.put fun E c h w a N Q hC O hf F Z=>?_⟩;obtain⟨zv,aE,a1,_⟩:=Tr hz w;obtain⟨c',g1,g2,g3⟩:=hC.newVar (hf (by simpa[kt] using h1)) _ (AG (c:=c) (h:=h) (w:=w) hl)
   refine qE ?_ (Z _ _ c' g1 g2 g3);have e:zv.cells=z.toArray:=by rw[<-aE]
   simp [execOp,Instr.alloc,a1,Go.newVar,newRow,newObj,Sem.run,e]
 · split at D<;>try (cases D;done)
   rename_i d v hv;split at D<;>try (cases D;done)
   rename_i l hl;obtain⟨h1,h2⟩:=bL D;refine⟨_,_,h2,St.put fun E c h w a N Q hC O hf F Z=>?_⟩;obtain⟨c',g1,g2,g3⟩:=hC.newVar (hf (by simpa[kt] using h1)) _ (v7 (F _ (by simp [Op.operands]) _ hv) hl)
   exact qE (by simp [execOp,Instr.box,Go.newVar,newRow,newObj,Sem.run]) (Z _ _ c' g1 g2 g3)
 · obtain⟨v,h1,h2⟩:=eG D;obtain⟨v',ah,h2⟩:=eG h2;exact amO h1 ah h2
 · obtain⟨v,h1,h2⟩:=eG D;obtain⟨v',ah,J⟩:=eG h2;split at J<;>try (cases J;done)
   rename_i d e n b k1 m k2 m' hs;split at J<;>try (cases J;done)
   rename_i t ht;split at J<;>try (cases J;done)
   rename_i q hq;obtain⟨M,h5⟩:=bL J;simp only[ae7,decide_eq_true_eq,beq_iff_eq] at M;obtain⟨rfl,hb⟩:=M;obtain⟨⟨h6,h7,h8⟩,h9⟩:=iE h5;obtain⟨b4,b5⟩:=bL h9;obtain⟨m,rfl⟩: ∃j:Nat,m=(j:Int):=⟨Int.toNat m,(ax4 h7).symm⟩;refine⟨_,_,b5,St.put fun E c h w a N Q hC O hf F Z=>?_⟩;obtain⟨inf,z,hu,an,hz,av,a7,ar,az⟩:=pd hs;have Y:=int_eq (F _ (by simp [Op.operands]) _ h1)
   have U:=int_eq (F _ (by simp [Op.operands]) _ ah)
   rw[<-h6] at U;have h8:m<=1000000000:=az1.1 h8;have b6:(inf.bytes:Int)*(m:Int)<=281474976710656:=by rw[a7];have h1:((b*m:Nat):Int)<=((1000*1000000000:Nat):Int):=az1.2 (Nat.mul_le_mul hb h8);rw[Int.natCast_mul] at h1;omega
   have hr:=run_make (P:=P) w _ e inf z hu an hz k1 k2 m m (by omega) (Int.le_refl _) b6 (by omega)
   simp only[as1] at hr Z⊢;have a6:=PY (Zt (c:=c) (h:=h) (w:=w) hq an hz) m;have e3:(madeCells z.cells (m*inf.size)).toList=(List.replicate m z.cells.toList).flatten:=by rw[<-Qs (by omega),ar,av];simp [madeCells,ar]
   rw[<-e3] at a6;have ca:(madeCells z.cells (m*inf.size)).toList.length=m*wid t:=by rw[a6.len,hJ,ay4]
   have ch:dZ (w.alloc (.cells (madeCells z.cells (m*inf.size)) e)) e (wid t) (.slice (some ⟨w.heap.size,0,none⟩) m m) m (madeCells z.cells (m*inf.size)).toList:=by
    have:=dZ.lit w (e:=e) ca (by unfold maxLen;omega)
    rwa [Array.toArray_toList] at this
   obtain⟨c',g1,g2,g3⟩:=hC.newRow (k:=d) (t:=t) (l:=List.replicate m q) (hf (by simpa[kt] using b4)) az (ER w _) (by rw[ay4];exact ch) (fun b q=>by rw[ue q];exact ae5 _) a6
   exact qE (by simp only[execOp,Y,U,Sem.run_bind,hr,Result.andThen_ok,Sem.run_pure]) (Z _ _ c' g1 g2 g3)
 · rename_i ty len ps;split at D<;>try (cases D;done)
   rename_i l e n b hl hs;obtain⟨inf,z,hu,an,hz,av,a7,ar,az⟩:=pd hs;have bp: ∀{c:Cx} {h:Hp} {w:World} {a:Act},(∀x∈(Op.buildSlice ty len ps).operands,∀d,bB s.sl x=some d->SR c h w (a.eval x) d)->ay (fun p q=>p.1=q.1/\SR c h w p.2 q.2) (ps.toList.map fun p=>(p.1,a.eval p.2)) l:=fun F=>LW hl fun p hp=>F p.2 (by simp [Op.operands];exact⟨p.1,by simpa using hp⟩)
   have cp:(Op.buildSlice ty len ps)=.buildSlice ty len ps.toList.toArray:=by simp
   rw[cp] at*
   have rows: ∀{t:Ty} {rows:List (den t)},Gg t 0 l=some rows->rows.length=len->wid t=n->len*n<=16777216-> ∀{c:Cx} {h:Hp} {w:World} {a:Act},(∀x∈(Op.buildSlice ty len ps.toList.toArray).operands,∀d,bB s.sl x=some d->SR c h w (a.eval x) d)->
     ∃cs:List Value,ay (CR c h w) cs (aT t rows)/\(execOp a.eval ⟨dst,.buildSlice ty len ps.toList.toArray,ty0,pos,af,g⟩).run P w=.ok (.value (.slice (some ⟨w.heap.size,0,none⟩) len len)) (w.alloc (.cells cs.toArray e)):=by
    intro t rows hr h1 h2 J c h w a F;subst h1;subst h2;obtain⟨qs,q1,q2⟩:=aa6 (pre:=[]) (LW (a:=a.eval) (c:=c) (h:=h) (w:=w) hl fun p hp=>F p.2 (by simp [Op.operands];exact⟨p.1,by simpa using hp⟩)) hr
    obtain⟨cs,f1,f2⟩:=Ta (P:=P) (dst:=dst) (ty0:=ty0) (pos:=pos) (af:=af) (g:=g) (w:=w) hs J (Q:=fun v x=>x=.dead\/CR c h w v x) (q1.mono fun p q bx=>⟨bx.1,bx.2.mono fun _ _=>.inr⟩) (fun v=>.inl rfl) (by simpa[aT] using q2)
    refine⟨cs,ay.of f1.len fun i u x hu hx=>?_,f2⟩;obtain⟨u',Y,U⟩:=f1.get hx;rw[hu] at Y;cases Y;rcases U with rfl |U
    · obtain⟨_,_,e3⟩:=uy _ _ (List.mem_of_getElem? hx);cases e3
    · exact U
   have mx: ∀{m:Nat},m*n<=16777216->m<=maxLen:=fun{m} h=>by have:m*1<=m*n:=Nat.mul_le_mul_left _ az;unfold maxLen;omega
   split at D
   · rename_i v;split at D<;>try (cases D;done)
     rename_i cs b7;split at D<;>try (cases D;done)
     rename_i q hq;obtain⟨h1,h2⟩:=bL D;simp only[ae7,Nat.ble_eq] at h1;have J:=at7 h1.1.1;have M:=at7 h1.1.2;subst J;subst M;refine⟨_,_,h2,fun E c h w a N Q hC O _ F Z=>?_⟩;rw[bC.self O] at Z;have hl:=bp F;cases hp:ps.toList.map fun p=>(p.1,a.eval p.2) with
     |nil=>rw[hp] at hl;cases hl
     |cons p0 pr=>
      rw[hp] at hl;cases hl with
      |cons g1 gt=>
       cases gt;have g2:=v7 g1.2 b7
       obtain⟨us,f1,f2⟩:=Ta (P:=P) (dst:=dst) (ty0:=ty0) (pos:=pos) (af:=af) (g:=g) (w:=w) (a:=a.eval) (parts:=ps.toList) hs (len:=1) (by omega) (Q:=fun v x=>x=.dead\/CR c h w v x) (ps:=[(0,cs)]) (r:=cs) (by
        rw[hp];exact .cons ⟨g1.1,g2.mono fun _ _=>.inr⟩ .nil) (fun v=>.inl rfl) (by
        unfold oe oe;simp [eo,Tc hq])
       obtain⟨k1,k2⟩:=hC.Gw (ER w (.cells us.toArray e)) (fun b i=>c.A b i\/b=w.heap.size) (fun b i q=>.inl q) fun b i q=>q.imp id fun q=>⟨Nat.le_of_eq q.symm,by rw[q];simp⟩
       have bb:ay (CR c h w) us cs:=ay.of f1.len fun i u x hu hx=>by
        obtain⟨u',Y,U⟩:=f1.get hx;rw[hu] at Y;cases Y;rcases U with rfl |U
        · obtain⟨u2,_,e3⟩:=g2.get hx
          exact absurd hq (by
           have: ∀(l:List DC) q,DC.dead∈l->uv l≠some q:=fun l=>by
            induction l with
            |nil=>intro q hm;cases hm
            |cons x r ih=>
             intro q hm e;unfold uv at e;split at e<;>try (cases e;done)
             rename_i Y U;rcases at3.1 hm with hm |hm
             · subst hm;cases Y
             · exact ih _ hm U
           exact this _ _ (List.mem_of_getElem? hx))
        · exact U
       refine qE f2 (Z _ _ _ k1 k2 ⟨_,_,_,rfl,ae5 _,by unfold maxLen;omega,fun i x hx=>?_⟩)
       have hi:i<us.length:=by rw[bb.len,<-Tc hq];exact(av7.1 hx).1
       refine⟨us[i],⟨.inr rfl,?_⟩,?_⟩
       · rw[Nat.zero_add,cell_of (heap_alloc_new w _)];simp [hi]
       · have:=ab5 hq bb i us[i] x (ae9 hi) hx;cases x with
         |v t x=>exact⟨this.1,this.2.mono k2.cell t fun _ _ q=>q⟩
         |nil=>exact this
   · split at D
     · refine⟨_,_,D,fun E c h w a N Q hC O _ F Z=>?_⟩;rw[bC.self O] at Z;have hl:=bp F;obtain⟨us,f1,f2⟩:=Ta (P:=P) (dst:=dst) (ty0:=ty0) (pos:=pos) (af:=af) (g:=g) (w:=w) (a:=a.eval) (parts:=ps.toList) hs (len:=0) (by omega) (Q:=fun v x=>True) (ps:=[]) (r:=[]) (by generalize ps.toList.map (fun p=>(p.1,a.eval p.2))=q at hl⊢;cases hl;exact .nil) (fun v=>trivial) (by simp [oe])
       obtain⟨k1,k2⟩:=hC.same (ER w (.cells us.toArray e));exact qE f2 (Z _ _ c k1 k2 ⟨_,rfl⟩)
     · split at D<;>try (cases D;done)
       rename_i t ht;split at D<;>try (cases D;done)
       rename_i b2 b0;obtain⟨h1,h2⟩:=bL D;simp only[ae7,decide_eq_true_eq,beq_iff_eq] at h1;obtain⟨⟨J,M⟩,h5⟩:=h1;split at h2<;>try (cases h2;done)
       · refine⟨_,_,h2,fun E c h w a N Q hC O _ F Z=>?_⟩;rw[bC.self O] at Z;obtain⟨us,f1,f2⟩:=rows b0 J M h5 F;obtain⟨c',k1,k2,k3⟩:=hC.frozen (ER w (.cells us.toArray e)) (t:=t) (l:=b2) (by rw[J];exact dZ.lit w (by rw[f1.len,hJ,J]) (mx h5)) (fun b q=>by rw[ue q];exact ae5 _) f1
         exact qE f2 (Z _ _ c' k1 k2 k3)
       · rename_i d _;obtain⟨h6,h7⟩:=bL h2;refine⟨_,_,h7,St.put fun E c h w a N Q hC O hf F Z=>?_⟩;obtain⟨us,f1,f2⟩:=rows b0 J M h5 F;obtain⟨c',k1,k2,k3⟩:=hC.newRow (k:=d) (hf (by simpa[kt] using h6)) (by omega) (ER w (.cells us.toArray e)) (t:=t) (l:=b2) (by rw[J];exact dZ.lit w (by rw[f1.len,hJ,J]) (mx h5)) (fun b q=>by rw[ue q];exact ae5 _) f1
         exact qE f2 (Z _ _ c' k1 k2 k3)
 · obtain⟨v,h1,h2⟩:=eG D;obtain⟨u,J,M⟩:=aqz (ty0:=ty0) h2;exact⟨u,_,J,st1 h1 M (by simp [Op.operands,Call.operands]) fun a w z e=>by simp only[execOp,resolve,invoke,builtin,Sem.run_bind,Sem.run_pure,Result.andThen_ok,List.map_toArray,ay3,List.map_nil,e]⟩
 · obtain⟨h0,h1⟩:=bL D;have h0:=of_decide_eq_true h0;subst h0;obtain⟨v,h1,h2⟩:=eG h1;obtain⟨v',ah,h2⟩:=eG h2;exact amw h1 ah h2
 · obtain⟨v,h1,h2⟩:=eG D;exact an8 h1 h2
 all_goals
  split at D<;>try (cases D;done)
  rename_i hx hy;refine⟨_,_,D,St.val fun E c h w a _ O F=>?_⟩;have Y:=int_eq (F _ (by simp [Op.operands,Call.operands]) _ hx)
  have U:=int_eq (F _ (by simp [Op.operands,Call.operands]) _ hy)
  first
   |exact⟨_,by simp [execOp,resolve,invoke,builtin,Builtin.max_,Builtin.max2,Y,U];rfl,rfl,rfl⟩
   |exact⟨_,by simp [execOp,resolve,invoke,builtin,Builtin.min_,Builtin.min2,Y,U];rfl,rfl,rfl⟩
end
inductive Sh where
 |dead
 |v (t:Ty)
 |kb (b:Bool)
 |nil
 |np
 |z
 |mu (f:Nat)
 |own (k:Nat)
 |ptr (k i:Nat)
 |el (t:Ty) (j:Nat)
 |OK (k j:Nat)
 |nC (k:Nat)
 |OD (k j:Nat)
inductive SS where
 |c (x:Sh)
 |agg (l:List Sh)
 |fn (f:Nat) (a b:List Sh)
 |st (t:Ty)
inductive SO where
 |var (ty:TypeId) (l:List Sh)
 |row (ty:TypeId) (t:Ty)
 |st (ty:TypeId) (t:Ty)
 |bI (ty:TypeId) (t:Ty) (l:List Sh)
structure Shape where
 sl:List (Nat×SS)
 hp:List (Nat×SO)
@[reducible] def VC (X:Type):Sh->Type
 |.v t=>den t×X
 |.el t _=>den t×X
 |.OK _ _=>Nat×X
 |.nC _=>Nat×X
 |_=>X
@[reducible] def VL (X:Type):List Sh->Type
 |[]=>X
 |s::r=>VC (VL X r) s
@[reducible] def VS (X:Type):SS->Type
 |.c x=>VC X x
 |.agg l=>VL X l
 |.fn _ a b=>VL (VL X b) a
 |.st t=>den t×X
@[reducible] def p4 (X:Type):List (Nat×SS)->Type
 |[]=>X
 |p::r=>VS (p4 X r) p.2
@[reducible] def VO (X:Type):SO->Type
 |.var _ l=>VL X l
 |.row _ t=>List (den t)×X
 |.st _ t=>den t×X
 |.bI _ t l=>Bool×(List (den t)×VL X l)
@[reducible] def VH (X:Type):List (Nat×SO)->Type
 |[]=>X
 |p::r=>VO (VH X r) p.2
@[reducible] def cv (sh:Shape):Type:=p4 (VH Unit sh.hp) sh.sl
def mkC {X:Type}:(s:Sh)->VC X s->DC×X
 |.dead,x=>(.dead,x)
 |.v t,x=>(.v t x.1,x.2)
 |.kb b,x=>(.kb b,x)
 |.nil,x=>(.nil,x)
 |.np,x=>(.np,x)
 |.z,x=>(.z,x)
 |.mu f,x=>(.mu f,x)
 |.own k,x=>(.ow k 0 .all,x)
 |.ptr k i,x=>(.ptr k i,x)
 |.el t j,x=>(.el t x.1 j,x.2)
 |.OK k j,x=>(.ow k 0 (.el x.1 j),x.2)
 |.nC k,x=>(.ow k 0 (.nC x.1),x.2)
 |.OD k j,x=>(.ow k 0 (.s9 j),x)
def mkL {X:Type}:(l:List Sh)->VL X l->List DC×X
 |[],x=>([],x)
 |s::r,x=>((mkC s x).1::(mkL r (mkC s x).2).1,(mkL r (mkC s x).2).2)
def mkS {X:Type}:(s:SS)->VS X s->DS×X
 |.c s,x=>(.c (mkC s x).1,(mkC s x).2)
 |.agg l,x=>(.agg (mkL l x).1,(mkL l x).2)
 |.fn f a b,x=>(.fn (.func f) (mkL a x).1 (mkL b (mkL a x).2).1,(mkL b (mkL a x).2).2)
 |.st t,x=>(.agg (cA t x.1),x.2)
def mkSl {X:Type}:(l:List (Nat×SS))->p4 X l->cG×X
 |[],x=>([],x)
 |p::r,x=>((p.1,(mkS p.2 x).1)::(mkSl r (mkS p.2 x).2).1,(mkSl r (mkS p.2 x).2).2)
def mkO {X:Type}:(s:SO)->VO X s->aX×X
 |.var ty l,x=>(.var ty (mkL l x).1,(mkL l x).2)
 |.row ty t,x=>(.row [] ty t x.1,x.2)
 |.st ty t,x=>(.var ty (cA t x.1),x.2)
 |.bI ty t l,x=>(.bI [] ty t x.1 x.2.1 (mkL l x.2.2).1,(mkL l x.2.2).2)
def mkH {X:Type}:(l:List (Nat×SO))->VH X l->aG×X
 |[],x=>([],x)
 |p::r,x=>((p.1,(mkO p.2 x).1)::(mkH r (mkO p.2 x).2).1,(mkH r (mkO p.2 x).2).2)
def mkD (sh:Shape) (x:cv sh):aI:=⟨(mkSl sh.sl x).1,(mkH sh.hp (mkSl sh.sl x).2).1⟩
def eC (ks:List Nat) (k:Nat):Bool:=match ks with|[]=>false |q::r=>Nat.beq q k||eC r k
def nD:List Nat->Bool
 |[]=>true
 |k::r=> !eC r k&&nD r
def tb (ks:List Nat):Sh->Bool
 |.own k=>eC ks k
 |.ptr k _=>eC ks k
 |.OK k _=>eC ks k
 |.nC k=>eC ks k
 |.OD k _=>eC ks k
 |_=>true
def H6 (ks:List Nat):SS->Bool
 |.c s=>tb ks s
 |.agg l=>l.all (tb ks)
 |.fn _ a b=>a.all (tb ks)&&b.all (tb ks)
 |.st _=>true
def ON (ks:List Nat):SO->Bool
 |.var _ l=>l.all (tb ks)
 |.bI _ _ l=>l.all (tb ks)
 |_=>true
def Bb (sh:Shape):Bool:=nD (sh.hp.map (·.1))&&sh.sl.all (fun p=>H6 (sh.hp.map (·.1)) p.2)&&sh.hp.all (fun p=>ON (sh.hp.map (·.1)) p.2)
section
variable (eq:Nat->Nat->Bool) (H:aG)
def Gk (k g:Nat):Bool:=(rowAt H k g).isSome
abbrev PC:=(X:Type)->(s:Sh)->DC->X->Option (VC X s)
def uo (X:Type):(s:Sh)->DC->X->Option (VC X s)
 |.dead,_,x=>some x
 |.v t,c,x=>match lE t with
  |true=>match rC t c with|some q=>some (q,x) |none=>none
  |false=>none
 |.kb true,.kb true,x=>some x
 |.kb false,.kb false,x=>some x
 |.nil,.nil,x=>some x
 |.np,.np,x=>some x
 |.z,.z,x=>some x
 |.z,.nil,x=>some x
 |.mu f,.mu J,x=>match Nat.beq f J with|true=>some x |false=>none
 |.own k,.ow D g .all,x=>match eq k D&&Gk H D g with|true=>some x |false=>none
 |.ptr k i,.ptr D M,x=>match eq k D&&Nat.beq i M with|true=>some x |_=>none
 |.el t j,.el N q F,x=>match mT N t,Nat.beq j F with|some h,true=>some (h.down▸q,x) |_,_=>none
 |.OK k j,.ow D g (.el i F),x=>match eq k D&&Gk H D g&&Nat.beq j F with|true=>some (i,x) |_=>none
 |.nC k,.ow D g (.nC i),x=>match eq k D&&Gk H D g with|true=>some (i,x) |_=>none
 |.OD k j,.ow D g (.s9 F),x=>match eq k D&&Gk H D g&&Nat.beq j F with|true=>some x |_=>none
 |_,_,_=>none
variable {X:Type} (pc:PC) (jn:(t:Ty)->List DC->Option (den t))
def um:(l:List Sh)->List DC->X->Option (VL X l)
 |[],[],x=>some x
 |s::r,c::q,x=>match um r q x with|some y=>pc _ s c y |none=>none
 |_,_,_=>none
def T0:(s:SS)->DS->X->Option (VS X s)
 |.c s,.c c,x=>pc X s c x
 |.agg l,.agg q,x=>um pc l q x
 |.fn f a b,.fn (.func D) u w,x=>match Nat.beq f D with
  |true=>match um pc b w x with|some y=>um pc a u y |none=>none
  |false=>none
 |.st t,.agg q,x=>match jn t q with|some v=>some (v,x) |none=>none
 |_,_,_=>none
def AJ (s:cG):(l:List (Nat×SS))->X->Option (p4 X l)
 |[],x=>some x
 |p::r,x=>match AJ s r x with|some y=>T0 pc jn p.2 (bU s p.1) y |none=>none
def T1:(s:SO)->aX->X->Option (VO X s)
 |.var ty l,.var D q,x=>match Nat.beq ty D with|true=>um pc l q x |false=>none
 |.row ty t,.row _ D F l,x=>match Nat.beq ty D,mT F t with|true,some h=>some (h.down▸l,x) |_,_=>none
 |.st ty t,.var D q,x=>match Nat.beq ty D,qQ t q with|true,some v=>some (v,x) |_,_=>none
 |.bI ty t l,.bI _ D F e q last,x=>match Nat.beq ty D,mT F t,um pc l last x with|true,some h,some y=>some (e,h.down▸q,y) |_,_,_=>none
 |_,_,_=>none
def MU (fnd:Nat->Option aX):(l:List (Nat×SO))->X->Option (VH X l)
 |[],x=>some x
 |p::r,x=>match MU fnd r x with
  |some y=>match fnd p.1 with|some o=>T1 pc p.2 o y |none=>none
  |none=>none
end
def proj (eq:Nat->Nat->Bool) (fnd:Nat->Option aX) (sh:Shape) (s:aI):Option (cv sh):=
 match MU (uo eq s.hp) fnd sh.hp () with|some y=>AJ (uo eq s.hp) qQ s.sl sh.sl y |none=>none
inductive nG:aX->aX->Prop where
 |row {o o':aX} {hs:List (Option Nat)} {ty:TypeId} {wd:Nat} (h:cU o=some (hs,ty,wd)) (h':cU o'=some ([],ty,wd)) (hl:bc o'=bc o):nG o o'
 |var (ty:TypeId) (l l':List DC):nG (.var ty l) (.var ty l')
structure adx (eq:Nat->Nat->Bool) (ks:List Nat) (c:Cx) (h:Hp) (w:World) (c':Cx) (h':Hp):Prop where
 key: ∀k k',eq k k'=true->eC ks k=true-> ∃o o',h k'=some o/\h' k=some o'/\nG o o'/\c'.m k=c.m k'
 cell:uC c.A w c'.A w
section
variable {X:Type} {eq:Nat->Nat->Bool} {ks:List Nat} {c c':Cx} {H:aG} {h h':Hp} {w:World}
theorem ZN (ah:Sub H h) (hR:adx eq ks c h w c' h') {s:Sh} {d:DC} {x:X} {v:VC X s} (hc:tb ks s=true) (hp:uo eq H X s d x=some v):(∀u,CR c h w u d->CR c' h' w u (mkC s v).1)/\(mkC s v).2=x:=by
 have now: ∀{k F g:Nat} {p:PK},eq k F=true->Gk H F g=true->eC ks k=true-> ∀u,CR c h w u (.ow F g p)->CR c' h' w u (.ow k 0 p):=by
  intro k F g p h1 h2 h3 u hu;obtain⟨o,ho⟩:=ax3.1 h2;obtain⟨hs,ty,wd,hr,hm⟩:=iJ (w:=w) (H:=H) ah ho hu;obtain⟨o1,o',M,O,U,Y⟩:=hR.key k F h1 h3;rw[ah _ _ (jG ho).1] at M;cases M;cases U with
  |var=>cases hr
  |row J h5 N=>rw[hr] at J;injection J with J;simp[Prod.mk.injEq] at J;obtain⟨_,rfl,rfl⟩:=J;exact⟨hu.1,o',O,some (bc o'),by simp [cD,h5],_,_,_,h5,fun m Z=>by injection Z with Z;subst Z;exact⟨ae5 _,fun _=>by rw[Y,N];exact hm⟩⟩
 unfold uo at hp;split at hp<;>first |(cases hp;done) |skip
 · cases hp;exact⟨fun u hu=>CR.one hu,rfl⟩
 · split at hp<;>try (cases hp;done)
   split at hp<;>try (cases hp;done)
   rename_i hs _ q hq;cases hp;exact⟨fun u hu=>by obtain⟨h1,h2⟩:=uf hs hq hu;exact⟨h1,h2.mono hR.cell _ fun _ _ h=>h⟩,rfl⟩
 all_goals try (cases hp;exact⟨fun u hu=>hu,rfl⟩)
 · cases hp;exact⟨fun u hu=>⟨none,hu⟩,rfl⟩
 all_goals
  split at hp<;>try (cases hp;done)
  cases hp
 · rename_i hf;rw[at7 hf];exact⟨fun u hu=>hu,rfl⟩
 · rename_i D;rw[ae7] at D;exact⟨now D.1 D.2 hc,rfl⟩
 · rename_i k i F i' _ D;rw[ae7] at D;obtain rfl:=at7 D.2;refine⟨fun u hu=>⟨hu.1,?_⟩,rfl⟩;obtain⟨o,o',M,O,U,Y⟩:=hR.key k F D.1 hc;obtain⟨o2,e5,N⟩:=hu.2;rw[M] at e5;cases e5;refine⟨o',O,?_⟩;cases U with
   |row h1 h2=>obtain⟨⟨_,_,rfl⟩,_⟩:=N;cases h1
   |var ty l l'=>exact⟨⟨_,_,rfl⟩,by rw[Y];exact N.2⟩
 · rename_i e _ hj;obtain⟨e⟩:=e;subst e;obtain rfl:=at7 hj;exact⟨fun u ⟨b,o,h1,h2⟩=>⟨b,o,h1,h2.mono hR.cell _ fun i v q=>hR.cell _ _ _ q.1 q.2⟩,rfl⟩
 · rename_i D;rw[ae7,ae7] at D;obtain rfl:=at7 D.2;exact⟨now D.1.1 D.1.2 hc,rfl⟩
 · rename_i D;rw[ae7] at D;exact⟨now D.1 D.2 hc,rfl⟩
 · rename_i D;rw[ae7,ae7] at D;obtain rfl:=at7 D.2;exact⟨now D.1.1 D.1.2 hc,rfl⟩
theorem anl {s:Sh} {d:DC} {x:X} {v:VC X s} (hp:uo eq H X s d x=some v):(mkC s v).2=x:=by
 unfold uo at hp;split at hp<;>first |(cases hp;done) |(cases hp;rfl) |skip
 all_goals
  split at hp<;>try (cases hp;done)
  first
   |(cases hp;rfl)
   |(split at hp<;>first |(cases hp;done) |(cases hp;rfl))
end
section
variable {pc:PC} {jn:(t:Ty)->List DC->Option (den t)} {Q Q':Value->DC->Prop} {ks:List Nat} (hpc: ∀(X:Type) (s:Sh) (d:DC) (x:X) (v:VC X s),tb ks s=true->pc X s d x=some v->(∀u,Q u d->Q' u (mkC s v).1)/\(mkC s v).2=x)
include hpc
theorem Ag {X:Type}: ∀{l:List Sh} {q:List DC} {x:X} {v:VL X l},l.all (tb ks)=true->um pc l q x=some v->(∀us,ay Q us q->ay Q' us (mkL l v).1)/\(mkL l v).2=x
 |[],[],x,v,_,h=>by cases h;exact⟨fun us hu=>by cases hu;exact .nil,rfl⟩
 |[],_::_,_,_,_,h=>nomatch h
 |_::_,[],_,_,_,h=>nomatch h
 |s::r,d::q,x,v,hc,h=>by
  unfold um at h;rw[av4,ae7] at hc;split at h<;>try (cases h;done)
  obtain⟨h1,h2⟩:=hpc _ _ _ _ _ hc.1 h;obtain⟨D,F⟩:=Ag hc.2 (by omega)
  show(∀us,_->ay Q' us ((mkC s v).1::(mkL r (mkC s v).2).1))/\(mkL r (mkC s v).2).2=x;rw[h2];exact⟨fun us hu=>by cases hu with|cons a b=>exact .cons (h1 _ a) (D _ b),F⟩
theorem aoN {X:Type} {s:SO} {o:aX} {x:X} {v:VO X s} (hv: ∀u t d,Q u (.v t d)->Q' u (.v t d)) (U: ∀t q d us,qQ t q=some d->ay Q us q->ay Q' us (cA t d)) (hc:ON ks s=true) (h:T1 pc s o x=some v):(nG o (mkO s v).1/\ ∀us,ay Q us (dM o)->ay Q' us (dM (mkO s v).1))/\(mkO s v).2=x:=by
 have fl: ∀{t:Ty} {l:List (den t)} {us:List Value},ay Q us (aT t l)->ay Q' us (aT t l):=fun{t l us} hu=>ay.of hu.len fun i u x h1 h2=>by obtain⟨u',F,e2⟩:=hu.get h2;rw[h1] at F;cases F;obtain⟨t',Z,rfl⟩:=uy _ _ (List.mem_of_getElem? h2);grind
 unfold T1 at h;split at h<;>try (cases h;done)
 · split at h<;>try (cases h;done)
   rename_i D;obtain rfl:=at7 D;obtain⟨h1,h2⟩:=Ag hpc hc h;exact⟨⟨.var _ _ _,h1⟩,h2⟩
 · split at h<;>try (cases h;done)
   rename_i _ _ e D _;obtain rfl:=at7 D;obtain⟨e⟩:=e;subst e;cases h;exact⟨⟨.row rfl rfl rfl,fun us hu=>fl hu⟩,rfl⟩
 · split at h<;>try (cases h;done)
   rename_i D O;obtain rfl:=at7 D;cases h;exact⟨⟨.var _ _ _,fun us hu=>U _ _ _ _ O hu⟩,rfl⟩
 · split at h<;>try (cases h;done)
   rename_i N q last _ _ _ e _ D _ Y;obtain rfl:=at7 D;obtain⟨e⟩:=e;subst e;cases h;obtain⟨h1,h2⟩:=Ag hpc hc Y;refine⟨⟨.row rfl rfl rfl,fun us hu=>?_⟩,h2⟩;cases N with
   |true=>have hu:=hu;cases hu;exact .nil
   |false=>have hu:ay Q us (aT _ q++last):=hu;have J:=hu.take (aT _ q).length;have M:=hu.drop (aT _ q).length;rw[List.take_left] at J;rw[List.drop_left] at M;rw[<-au6 (aT _ q).length us];exact(fl J).app (h1 _ M)
theorem R4 {X:Type} {fnd:Nat->Option aX} (F: ∀u t d,Q u (.v t d)->Q' u (.v t d)) (D: ∀t q d us,qQ t q=some d->ay Q us q->ay Q' us (cA t d)): ∀{l:List (Nat×SO)} {x:X} {v:VH X l},l.all (fun p=>ON ks p.2)=true->MU pc fnd l x=some v->
  ((∀k o',aj (mkH l v).1 k=some o'-> ∃o,fnd k=some o/\nG o o'/\ ∀us,ay Q us (dM o)->ay Q' us (dM o'))/\ ∀k,eC (l.map (·.1)) k=true->(aj (mkH l v).1 k).isSome=true)/\(mkH l v).2=x
 |[],x,v,_,h=>by cases h;exact⟨⟨fun k o' h=>(by cases h),fun k h=>(by cases h)⟩,rfl⟩
 |p::r,x,v,hc,h=>by
  unfold MU at h;rw[av4,ae7] at hc;split at h<;>try (cases h;done)
  rename_i y M;split at h<;>try (cases h;done)
  rename_i o Y;obtain⟨h1,h2⟩:=aoN hpc F D hc.1 h;obtain⟨⟨N,O⟩,J⟩:=R4 F D hc.2 M;show((∀k o',aj ((p.1,(mkO p.2 v).1)::(mkH r (mkO p.2 v).2).1) k=some o'->_)/\ ∀k,_->(aj ((p.1,(mkO p.2 v).1)::(mkH r (mkO p.2 v).2).1) k).isSome=true)/\(mkH r (mkO p.2 v).2).2=x;rw[h2];refine⟨⟨fun k o' e=>?_,fun k hk=>?_⟩,J⟩
  · grind[aj]
  · unfold aj;split
    · rfl
    · rename_i U;have hk:(Nat.beq p.1 k||eC (r.map (·.1)) k)=true:=hk
      simp_all
theorem aoM {X:Type} {c c':Cx} {h h':Hp} {w w':World} (D: ∀u x,CR c h w u x->Q u x) (F: ∀u x,Q' u x->CR c' h' w' u x) (N: ∀t q d us,jn t q=some d->ay Q us q->ay Q' us (cA t d)) {s:SS} {d:DS} {x:X} {v:VS X s} (hc:H6 ks s=true) (hp:T0 pc jn s d x=some v):(∀u,SR c h w u d->SR c' h' w' u (mkS s v).1)/\(mkS s v).2=x:=by
 unfold T0 at hp;split at hp<;>try (cases hp;done)
 · obtain⟨h1,h2⟩:=hpc _ _ _ _ _ hc hp;exact⟨fun u hu=>F _ _ (h1 u (D _ _ hu)),h2⟩
 · obtain⟨h1,h2⟩:=Ag hpc hc hp;exact⟨fun u ⟨vs,e,hu⟩=>⟨vs,e,(h1 vs (hu.mono D)).mono F⟩,h2⟩
 · split at hp<;>try (cases hp;done)
   rename_i hf;split at hp<;>try (cases hp;done)
   rename_i y U;unfold H6 at hc;rw[ae7] at hc;obtain rfl:=at7 hf;obtain⟨h1,h2⟩:=Ag hpc hc.1 hp;obtain⟨J,M⟩:=Ag hpc hc.2 U;rename_i f a b u w _ _;show(∀u,_->SR c' h' w' u (.fn (.func f) (mkL a v).1 (mkL b (mkL a v).2).1))/\(mkL b (mkL a v).2).2=x;rw[h2];exact⟨fun z ⟨vs,us,e,g1,g2⟩=>⟨vs,us,e,(h1 _ (g1.mono D)).mono F,(J _ (g2.mono D)).mono F⟩,M⟩
 · split at hp<;>try (cases hp;done)
   rename_i v O;cases hp;exact⟨fun u ⟨vs,e,hu⟩=>⟨vs,e,(N _ _ _ _ O (hu.mono D)).mono F⟩,rfl⟩
theorem Rn {X:Type} {c c':Cx} {h h':Hp} {w w':World} (F: ∀u x,CR c h w u x->Q u x) (J: ∀u x,Q' u x->CR c' h' w' u x) (D: ∀t q d us,jn t q=some d->ay Q us q->ay Q' us (cA t d)) {s:cG}: ∀{l:List (Nat×SS)} {x:X} {v:p4 X l},l.all (fun p=>H6 ks p.2)=true->AJ pc jn s l x=some v->
  (∀t u,SR c h w u (bU s t)->SR c' h' w' u (bU (mkSl l v).1 t))/\(mkSl l v).2=x
 |[],x,v,_,hp=>by cases hp;exact⟨fun t u _=>trivial,rfl⟩
 |p::r,x,v,hc,hp=>by
  unfold AJ at hp;rw[av4,ae7] at hc;split at hp<;>try (cases hp;done)
  rename_i y N;obtain⟨h1,h2⟩:=aoM hpc F J D hc.1 hp;obtain⟨O,M⟩:=Rn F J D hc.2 N;show(∀t u,_->SR c' h' w' u (bU ((p.1,(mkS p.2 v).1)::(mkSl r (mkS p.2 v).2).1) t))/\(mkSl r (mkS p.2 v).2).2=x;rw[h2];refine⟨fun t u hu=>?_,M⟩;unfold bU;split
  · grind
  · grind
end
def Told (n:Nat) (E:cQ) (σ:Nat->DS) (h:Hp) (a:Act) (w:World):Prop:=(∃c,Conc E c h w/\ ∀t,SR c h w (a.tmps.getD t undef) (σ t))/\a.tmps.size=n/\a.defers=E.df
def fH (s D:aI):Prop:= ∀(E:cQ) (c:Cx) (w:World) (u:Nat->Value),Conc E c (aj s.hp) w->(∀t,SR c (aj s.hp) w (u t) (bU s.sl t))-> ∃c',Conc E c' (aj D.hp) w/\ ∀t,SR c' (aj D.hp) w (u t) (bU D.sl t)
theorem fH.refl (s:aI):fH s s:=fun E c w u h1 h2=>⟨c,h1,h2⟩
theorem fH.trans {s D F:aI} (h:fH s D) (h':fH D F):fH s F:=fun E c w u h1 h2=>by obtain⟨c',J,M⟩:=h E c w u h1 h2;exact h' E c' w u J M
theorem fH.told {s D:aI} (hw:fH s D) {n:Nat} {E:cQ} {a:Act} {w:World} (h:Told n E (bU s.sl) (aj s.hp) a w):Told n E (bU D.sl) (aj D.hp) a w:=by obtain⟨⟨c,h1,h2⟩,F,J⟩:=h;exact⟨hw E c w _ h1 h2,F,J⟩
theorem nG.obj {c c':Cx} {h h':Hp} {w:World} {k J:Nat} {o o':aX} (hs:nG o o') (hm:c'.m J=c.m k) (hc: ∀us,ay (CR c h w) us (dM o)->ay (CR c' h' w) us (dM o')) (F:nz c h w k o):nz c' h' w J o':=by
 cases hs with
 |var ty l U=>obtain⟨b,cs,h1,h2,D⟩:=F;exact⟨b,cs,hm.trans h1,h2,hc _ D⟩
 |row h1 h2 D=>
  obtain⟨O,xs,M,N⟩:=F.row h1;cases o' with
  |var=>cases h2
  |_=>exact⟨_,_,_,xs,h2,O,by rw[hm,D];exact M,hc _ N⟩
theorem nG.pl {o o':aX} {m:Value} (hs:nG o o'):PL m o m o':=by
 unfold PL;cases hs with
 |var=>exact⟨⟨_,rfl⟩,rfl⟩
 |row h1 h2 D=>grind
section
variable {sh:Shape} {s:aI} {v:cv sh} {eq:Nat->Nat->Bool} {fnd:Nat->Option aX}
theorem ZG (h:Bb sh=true):sh.sl.all (fun p=>H6 (sh.hp.map (·.1)) p.2)=true/\sh.hp.all (fun p=>ON (sh.hp.map (·.1)) p.2)=true:=by grind[Bb]
theorem abd {h:Hp} (ah:Sub s.hp h) (ho:Bb sh=true) (hp:proj eq fnd sh s=some v) (hf: ∀k o,fnd k=some o-> ∃D,h D=some o/\ ∀q,eC (sh.hp.map (·.1)) k=true->eq k q=true->q=D) {c c':Cx} {w:World} (hm: ∀k D,eC (sh.hp.map (·.1)) k=true->eq k D=true->c'.m k=c.m D) (hA:uC c.A w c'.A w):
  (∀k o',aj (mkD sh v).hp k=some o'-> ∃o,fnd k=some o/\nG o o'/\ ∀us,ay (CR c h w) us (dM o)->ay (CR c' (aj (mkD sh v).hp) w) us (dM o'))/\(∀k,eC (sh.hp.map (·.1)) k=true->(aj (mkD sh v).hp k).isSome=true)/\
  ∀t u,SR c h w u (bU s.sl t)->SR c' (aj (mkD sh v).hp) w u (bU (mkD sh v).sl t):=by
 obtain⟨h1,h2⟩:=ZG ho;unfold proj at hp;split at hp<;>try (cases hp;done)
 rename_i y Y;obtain⟨⟨f1,f2⟩,_⟩:=R4 (Q:=fun _ _=>True) (Q':=fun _ _=>True) (ks:=sh.hp.map (·.1)) (fun X Z d x v _ hp=>⟨fun _ _=>trivial,anl hp⟩) (fun _ _ _ _=>trivial) (fun t q d us O hu=>by obtain⟨l1,e,F⟩:=FL (Q:=fun _ _=>True) (Q':=fun _ _=>True) (fun _ _ _ _ _ _ _=>trivial) t (Fl O);rw[at0] at e;subst e;exact F us hu) h2 Y
 have hR:adx eq (sh.hp.map (·.1)) c h w c' (aj (mkH sh.hp y).1):=⟨fun k D F J=>by obtain⟨o',M⟩:=ax3.1 (f2 k J);obtain⟨o,N,e3,_⟩:=f1 k o' M;obtain⟨k2,e4,e5⟩:=hf k o N;obtain rfl:=e5 D J F;exact⟨o,o',e4,M,e3,hm k D J F⟩,hA⟩
 have hpc:=fun(X:Type) Z d x v hc (hp:uo eq s.hp X Z d x=some v)=>ZN ah hR hc hp;have U: ∀t q d us,qQ t q=some d->ay (CR c h w) us q->ay (CR c' (aj (mkH sh.hp y).1) w) us (cA t d):=fun t q d us O hu=>ay.of (by rw[(Am O hu).len]) fun i u x F J=>by obtain⟨u',M,N⟩:=(Am O hu).get J;rw[F] at M;cases M;obtain⟨t',d',rfl⟩:=M6 _ _ _ (List.mem_of_getElem? J);exact⟨N.1,N.2.mono hA _ fun _ _ h=>h⟩
 obtain⟨⟨g1,g2⟩,_⟩:=R4 hpc (fun u t d hu=>⟨hu.1,hu.2.mono hA _ fun _ _ h=>h⟩) U h2 Y;obtain⟨g3,g4⟩:=Rn hpc (fun _ _ h=>h) (fun _ _ h=>h) U h1 hp;have e:(mkD sh v).hp=(mkH sh.hp y).1:=by show(mkH sh.hp (mkSl sh.sl v).2).1=_;rw[g4]
 rw[e];exact⟨g1,g2,g3⟩
def asa (x:Nat) (sh:Shape) (s:aI):Bool:=s.hp.all fun p=>Nat.blt p.1 1000||eC (x::sh.hp.map (·.1)) p.1
def MT (x:Nat) (sh:Shape) (s:aI):Option (cv sh):=match Bb sh&&asa x sh s with|true=>proj Nat.beq (aj s.hp) sh s |false=>none
def qO (sh:Shape) (s:aI):Option (cv sh):=MT 0 sh s
theorem Ah: ∀{H:aG} {k:Nat} {o:aX},aj H k=some o->(k,o)∈H
 |(q,u)::H,k,o,e=>by
  unfold aj at e;split at e
  · grind
  · exact av1 _ (Ah e)
def Gp (x:Nat) (s D:aI):Prop:= ∀(E:cQ) (c:Cx) (h:Hp) (w:World) (u:Nat->Value),E.H x=none->Conc E c h w->Sub s.hp h->(∀k,h k≠none->aj s.hp k=none->k<1000)->(∀t,SR c h w (u t) (bU s.sl t))-> ∃c',Conc E c' (aj D.hp) w/\ ∀t,SR c' (aj D.hp) w (u t) (bU D.sl t)
theorem ZM {x:Nat} {sh:Shape} {s:aI} {v:cv sh} (h:MT x sh s=some v):Gp x s (mkD sh v):=by
 unfold MT at h;split at h<;>try (cases h;done)
 rename_i D;rw[ae7] at D;intro E c h0 w u Z hC M hex hu;obtain⟨h1,h2,h3⟩:=abd M D.1 h (fun k o e=>⟨k,M k o e,fun q _ hq=>(at7 hq).symm⟩) (c:=c) (c':=c) (w:=w) (fun k k' _ e=>by rw[at7 e]) fun _ _ _ h1 h2=>⟨h1,h2⟩
 refine⟨c,hC.A9 (fun k o' e=>?_) (fun _ _ h=>h) (fun _ _ h=>.inl h) fun k o e=>?_,fun t=>h3 t _ (hu t)⟩
 · obtain⟨o,N,O,F⟩:=h1 k o' e;exact⟨O.obj rfl F (hC.obj k o (M k o N)),fun b D=>⟨⟨o,M k o N⟩,D⟩⟩
 · obtain⟨hk,o1,N,O⟩:=hC.fV k o e
   have U:aj s.hp k=some o1:=by
    cases q:aj s.hp k with
    |none=>grind
    |some o2=>grind
   have:=au9.1 D.2 (k,o1) (Ah U);rw[aw1] at this;have J:=this.resolve_left fun q=>by rw[Nat.blt_eq] at q;omega
   have J:(Nat.beq x k||eC (sh.hp.map (·.1)) k)=true:=J
   rw[aw1] at J;obtain⟨o',F⟩:=ax3.1 (h2 k (J.resolve_left fun q=>by rw[at7 q,e] at Z;cases Z))
   obtain⟨o2,Y,e5,_⟩:=h1 k o' F;rw[U] at Y;cases Y;exact⟨o',F,O.trans e5.pl⟩
def so (s D:aI):Prop:=Gp 0 s D
theorem acZ {E:cQ} {c:Cx} {h:Hp} {w:World} (hC:Conc E c h w):E.H 0=none:=by
 cases e:E.H 0 with
 |none=>rfl
 |some o=>have:=(hC.fV 0 o e).1;omega
theorem so.A9 {s D:aI} (h:so s D):fH s D:=fun E c w u h1 h2=>h E c _ w u (acZ h1) h1 (fun _ _ h=>h) (fun k h1 h2=>(h1 h2).elim) h2
theorem tN {sh:Shape} {s:aI} {v:cv sh} (h:qO sh s=some v):so s (mkD sh v):=ZM h
end
def sw (f:DC->DC):DS->DS
 |.dead=>.dead
 |.c x=>.c (f x)
 |.agg l=>.agg (l.map f)
 |.fk l=>.fk (l.map fun|.inl x=>.inl (f x) |.inr q=>.inr (q.map f))
 |.fn g a b=>.fn g (a.map f) (b.map f)
def uE (f:DC->DC):aX->aX
 |.var ty l=>.var ty (l.map f)
 |.row hs e t l=>.row hs e t l
 |.bI hs e t b l q=>.bI hs e t b l (q.map f)
theorem apx (f:DC->DC) (s:cG) (t:Nat):bU (s.map fun p=>(p.1,sw f p.2)) t=sw f (bU s t):=by
 induction s with
 |nil=>rfl
 |cons p r D=>
  obtain⟨q,x⟩:=p;show(if q=t then sw f x else bU (r.map _) t)=sw f (if q=t then x else bU r t)
  grind
theorem abg {f:DC->DC} {c c':Cx} {h h':Hp} {w w':World} (hf: ∀u x,CR c h w u x->CR c' h' w' u (f x)) {u:Value} {d:DS} (hu:SR c h w u d):SR c' h' w' u (sw f d):=by
 cases d with
 |dead=>trivial
 |c x=>exact hf _ _ hu
 |agg l=>obtain⟨vs,e,h1⟩:=hu;exact⟨vs,e,h1.imp hf⟩
 |fk l=>
  obtain⟨vs,e,h1⟩:=hu;refine⟨vs,e,h1.imp fun v x D=>?_⟩;cases x with
  |inl x=>exact hf _ _ D
  |inr q=>obtain⟨vs,e,h1⟩:=D;exact⟨vs,e,h1.imp hf⟩
 |fn g a b=>obtain⟨vs,us,e,h1,h2⟩:=hu;exact⟨vs,us,e,h1.imp hf,h2.imp hf⟩
def si (k:Nat) (f:DC->DC):aG->aG
 |[]=>[]
 |(q,o)::s=>if q=k then si k f s else(q,uE f o)::si k f s
theorem YN (r:Nat) (o:aX) (s:aG) (q:Nat):aj ((r,o)::s) q=if r=q then some o else aj s q:=rfl
theorem z8 (k:Nat) (f:DC->DC): ∀(s:aG) (q:Nat),aj (si k f s) q=if q=k then none else(aj s q).map (uE f)
 |[],q=>by simp [si,aj]
 |(r,o)::s,q=>by
  unfold si;rw[YN];by_cases e:r=k
  · rw[if_pos e,z8 k f s q];by_cases D:q=k
    · grind
    · grind
  · rw[if_neg e,YN];by_cases D:r=q
    · grind
    · rw[if_neg D,if_neg D];exact z8 k f s q
def free (k:Nat):Bool:=Nat.blt k 1000||Nat.ble 5000 k
theorem aas {E:cQ} {c:Cx} {h:Hp} {w:World} (hC:Conc E c h w) {k:Nat} (hk:free k=true):E.H k=none:=by
 cases D:E.H k with
 |none=>rfl
 |some o=>have:=(hC.fV k o D).1;unfold free at hk;simp[Nat.blt_eq] at hk;omega
theorem S9 (f:DC->DC) (m:Value) (o:aX):PL m o m (uE f o)/\cU (uE f o)=cU o/\bc (uE f o)=bc o:=by cases o<;>exact⟨by first |exact⟨⟨_,rfl⟩,rfl⟩ |exact⟨_,rfl,.inl ⟨rfl,rfl⟩⟩,rfl,rfl⟩
theorem Ym {k:Nat} {s:aI} {o:aX} {f:DC->DC} (ho:aj s.hp k=some o) (hk:free k=true) (Y: ∀t d,f (.v t d)=.v t d)
  (hf: ∀(E:cQ) c w,Conc E c (aj s.hp) w-> ∀c' h',c'.m=c.m->(∀b i,c'.A b i<->c.A b i\/dS (c.m k)=some b)->(∀q o,q≠k->aj s.hp q=some o-> ∃o',h' q=some o'/\cU o'=cU o/\bc o'=bc o/\(∀ty l,o=.var ty l-> ∃l',o'=.var ty l'))-> ∀u x,CR c (aj s.hp) w u x->CR c' h' w u (f x)):
  fH s ⟨s.sl.map fun p=>(p.1,sw f p.2),si k f s.hp⟩:=by
 intro E c w u hC hu;have M: ∀u x,CR c (aj s.hp) w u x->CR ⟨c.m,fun b i=>c.A b i\/dS (c.m k)=some b⟩ (aj (si k f s.hp)) w u (f x):=hf E c w hC _ _ rfl (fun _ _=>Iff.rfl) fun q D hq e=>⟨uE f D,by rw[z8,if_neg hq,e];rfl,(S9 f default D).2.1,(S9 f default D).2.2,fun ty l e=>⟨l.map f,by rw[e];rfl⟩⟩
 refine⟨⟨c.m,fun b i=>c.A b i\/dS (c.m k)=some b⟩,hC.A9 (fun q o' e=>?_) (fun _ _ h=>.inl h) (fun b i h=>h.imp id fun h=>⟨k,⟨⟨o,ho⟩,h⟩,by rw[z8,if_pos rfl]⟩) fun q D e=>?_,fun t=>by rw[apx];exact abg M (hu t)⟩
 · rw[z8] at e;split at e<;>try (cases e;done)
   obtain⟨D,J,O⟩:=Option.map_eq_some_iff.1 e;subst O;have h1:=hC.obj q D J;refine⟨?_,fun b hb=>⟨⟨D,J⟩,hb⟩⟩;cases D with
   |var ty l=>obtain⟨b,cs,g1,g2,g3⟩:=h1;exact⟨b,cs,g1,g2,g3.imp M⟩
   |row hs F t l=>
    obtain⟨h0,xs,g1,g2⟩:=h1.row rfl;refine⟨_,_,_,xs,rfl,h0,g1,?_⟩;have:=g2.imp M
    rwa [show(dM (.row hs F t l)).map f=dM (.row hs F t l) from(az2 fun x U=>by obtain⟨t,d,rfl⟩:=uy _ _ U;exact Y t d).trans (List.map_id _)] at this
   |bI hs F t b l N=>
    obtain⟨h0,xs,g1,g2⟩:=h1.row rfl;refine⟨_,_,_,xs,rfl,h0,g1,?_⟩;have:=g2.imp M;have e4:(aT t l).map f=aT t l:=(az2 fun x U=>by obtain⟨t,d,rfl⟩:=uy _ _ U;exact Y t d).trans (List.map_id _)
    cases b with
    |true=>exact this
    |false=>rwa [show(dM (.bI hs F t false l N)).map f=dM (uE f (.bI hs F t false l N)) by show(aT t l++N).map f=aT t l++N.map f;rw[at4,e4]] at this
 · obtain⟨_,Z,J,O⟩:=hC.fV q D e;have ah:q≠k:=fun h=>by subst h;rw[aas hC hk] at e;cases e
   exact⟨uE f Z,by rw[z8,if_neg ah,J];rfl,O.trans (S9 f _ Z).1⟩
theorem Ab {c c':Cx} {h h':Hp} {w:World} {k:Nat} (hm:c'.m=c.m) (hA: ∀b i,c.A b i->c'.A b i) (Z: ∀q o,q≠k->h q=some o-> ∃o',h' q=some o'/\cU o'=cU o/\bc o'=bc o/\ ∀ty l,o=.var ty l-> ∃N,o'=.var ty N) {u:Value} {x:DC} (F: ∀g p i,x≠.ow k g p/\x≠.ptr k i) (hu:CR c h w u x):CR c' h' w u x:=by
 have hc:uC c.A w c'.A w:=fun b i v h1 h2=>⟨hA _ _ h1,h2⟩;cases x with
 |ow q g p=>
  obtain⟨h1,o,e,n,h2,D⟩:=hu;obtain⟨o',J,O,U,_⟩:=Z q o (fun e=>by subst e;exact(F g p 0).1 rfl) e
  exact⟨h1,o',J,n,by unfold cD at h2⊢;rw[O,U];exact h2,by unfold Rw at D⊢;rw[O,U,hm];exact D⟩
 |ptr q i=>
  obtain⟨h1,o,e,⟨ty,l,e3⟩,h2⟩:=hu;obtain⟨o',J,_,_,e4⟩:=Z q o (fun e=>by subst e;exact(F 0 .all i).2 rfl) e
  obtain⟨N,e5⟩:=e4 ty l e3;exact⟨h1,o',J,⟨ty,N,e5⟩,by rw[hm];exact h2⟩
 |v t d=>exact⟨hu.1,hu.2.mono hc _ fun _ _ h=>h⟩
 |el t d j=>obtain⟨b,o,h1,h2⟩:=hu;exact⟨b,o,h1,h2.mono hc _ fun i v q=>hc _ _ _ q.1 q.2⟩
 |Bj l=>
  obtain⟨b,o,cap,h1,h2,D,h4⟩:=hu;refine⟨b,o,cap,h1,h2,D,fun i x F=>?_⟩;obtain⟨v,Y,M⟩:=h4 i x F;refine⟨v,hc _ _ _ Y.1 Y.2,?_⟩;cases x with
  |v t d=>exact⟨M.1,M.2.mono hc _ fun _ _ h=>h⟩
  |nil=>exact M
 |_=>exact hu
def VI (k g:Nat) (t:Ty) (l:List (den t)):DC->DC
 |.ow q D p=>if q=k then(match p,Nat.beq D g with|.all,true=>.v (.sl t) l |_,_=>.dead) else .ow q D p
 |.ptr q i=>if q=k then .dead else .ptr q i
 |x=>x
def ac8 (k:Nat) (H:aG):Option (Nat×(t:Ty)×List (den t)):=
 match aj H k with
 |some (.row hs _ t l)=>some (hs.length,⟨t,l⟩)
 |some (.bI hs _ t e l last)=>match pF (lV Nt t last) with
  |some x=>some (hs.length,⟨t,cond e [] (l++[x])⟩)
  |none=>none
 |_=>none
def Us (k:Nat) (s:aI):Option aI:=
 match free k,ac8 k s.hp with
 |true,some (g,⟨t,l⟩)=>some ⟨s.sl.map fun p=>(p.1,sw (VI k g t l) p.2),si k (VI k g t l) s.hp⟩
 |_,_=>none
theorem aqM {k:Nat} {s s':aI} (h:Us k s=some s'):fH s s':=by
 unfold Us at h;split at h<;>try (cases h;done)
 rename_i g t l hk D;cases h
 have key: ∃o hs ty,aj s.hp k=some o/\cU o=some (hs,ty,wid t)/\hs.length=g/\bc o=l.length/\ ∀c h w us,ay (CR c h w) us (dM o)->ay (CR c h w) us (aT t l):=by
  unfold ac8 at D;split at D<;>try (cases D;done)
  · rename_i J;injection D with D;injection D with M F;injection F with F U;subst M;subst F;obtain rfl:=eq_of_heq U;exact⟨_,_,_,J,rfl,rfl,rfl,fun c h w us hu=>hu⟩
  · rename_i b O last J;split at D<;>try (cases D;done)
    rename_i x hx;injection D with D;injection D with M F;injection F with F U;subst M;subst F;obtain rfl:=eq_of_heq U;refine⟨_,_,_,J,rfl,rfl,by cases b<;>simp [bc],fun c h w us hu=>?_⟩
    cases b with
    |true=>exact hu
    |false=>have hu:ay (CR c h w) us (aT _ O++last):=hu;show ay _ _ (aT _ (O++[x]));rw[qu];have ha:=hu.take (aT _ O).length;have Z:=hu.drop (aT _ O).length;rw[List.take_left] at ha;rw[List.drop_left] at Z;rw[<-au6 (aT _ O).length us];exact ha.app (by simpa[aT] using ace hx Z)
 obtain⟨o,hs,ty,J,hr,rfl,hlen,ah⟩:=key;refine Ym J hk (fun _ _=>rfl) fun E c w hC c' h' hm hA hh u x hu=>?_;have Y:=fun b i q=>(hA b i).2 (.inl q);unfold VI;split
 · rename_i q g' p;split
   · rename_i N;subst N;split
     · rename_i hg;obtain rfl:=at7 hg;obtain⟨_,o1,M,n,F,ar,av,wd,U,e4⟩:=hu;rw[J] at M;cases M;have:cD o hs.length=some (some (bc o)):=by simp [cD,hr]
       rw[this] at F;cases F;have e5:=(e4 _ rfl).2 rfl;obtain⟨_,xs,g1,g2⟩:=(hC.obj q o J).row hr;rw[hlen] at g1;rw[e5];have an:uC c.A w c'.A w:=fun b i v h1 h2=>⟨Y _ _ h1,h2⟩;refine R9 (c:=c') (h:=h') g1 (ay.of (ah _ _ _ _ g2).len fun i u x h1 h2=>?_) fun b i Z=>(hA b i).2 (.inr Z);obtain⟨u',f1,f2⟩:=(ah _ _ _ _ g2).get h2;rw[h1] at f1;cases f1;obtain⟨t',d',rfl⟩:=uy _ _ (List.mem_of_getElem? h2);exact⟨f2.1,f2.2.mono an _ fun _ _ h=>h⟩
     · exact CR.one hu
   · rename_i N;exact Ab hm Y hh (fun _ _ _=>⟨fun e=>by injection e with e;exact N e,fun e=>by cases e⟩) hu
 · rename_i q i;split
   · exact CR.one hu
   · rename_i N;exact Ab hm Y hh (fun _ _ _=>⟨fun e=>(by grind),fun e=>by injection e with e;exact N e⟩) hu
 · rename_i h1 h2;exact Ab hm Y hh (fun _ _ _=>⟨h1 _ _ _,h2 _ _⟩) hu
def VG (k:Nat) (t:Ty) (d:den t):DC->DC
 |.ptr q i=>if q=k then(if i=0 then .v (.ptr t) d else .el t d i) else .ptr q i
 |.ow q g p=>if q=k then .dead else .ow q g p
 |x=>x
def Ur (k:Nat) (t:Ty) (s:aI):Option aI:=
 match free k,aj s.hp k with
 |true,some (.var _ l)=>match qQ t l with
  |some d=>some ⟨s.sl.map fun p=>(p.1,sw (VG k t d) p.2),si k (VG k t d) s.hp⟩
  |none=>none
 |_,_=>none
theorem aqL {k:Nat} {t:Ty} {s Y:aI} (h:Ur k t s=some Y):fH s Y:=by
 unfold Ur at h;split at h<;>try (cases h;done)
 rename_i ty l hk N;split at h<;>try (cases h;done)
 rename_i d hd;cases h;refine Ym N hk (fun _ _=>rfl) fun E c w hC c' h' hm hA J u x hu=>?_;have F:=fun b i q=>(hA b i).2 (.inl q);unfold VG;split
 · rename_i q i;split
   · rename_i D;subst D;obtain⟨_,o1,e1,_,b,M,rfl⟩:=hu;obtain⟨b',cs,g1,g2,g3⟩:=hC.obj q _ N;rw[M] at g1;injection g1 with g1;injection g1 with g1;cases g1;have Z:uC c.A w c'.A w:=fun b i v h1 h2=>⟨F _ _ h1,h2⟩;have O:TR c'.A w t (Fz c'.A w b 0) d:=(CG.tr (c:=c) (h:=aj s.hp) t).1 (CG.of (Am hd g3) (g:=fun i v=>w.cell? ⟨b,0+i,none⟩=some v) fun i v U=>by rw[cell_of g2];grind)|>.mono Z _ fun i v U=>⟨(hA b _).2 (.inr (M▸rfl)),U⟩
     split
     · rename_i hi;subst hi;exact⟨rfl,b,0,rfl,O⟩
     · exact⟨b,0,by rw[Nat.zero_add],O⟩
   · rename_i D;exact Ab hm F J (fun _ _ _=>⟨fun e=>(by grind),fun e=>by injection e with e;exact D e⟩) hu
 · rename_i q g p;split
   · exact CR.one hu
   · rename_i D;exact Ab hm F J (fun _ _ _=>⟨fun e=>by injection e with e;exact D e,fun e=>by cases e⟩) hu
 · rename_i h1 h2;exact Ab hm F J (fun _ _ _=>⟨h2 _ _ _,h1 _ _⟩) hu
def Gy:aX->Bool
 |.row [] _ t []=>Nat.blt 0 (wid t)
 |.bI [] _ t true [] _=>Nat.blt 0 (wid t)
 |_=>false
theorem Tm {E:cQ} {c:Cx} {h:Hp} {w:World} {k:Nat} {o:aX} (hC:Conc E c h w) (hk:h k=none) (D:Gy o=true) (a:Option Addr): ∃c',Conc E c' (bY h k (some o)) w/\eN c h w c' (bY h k (some o)) w/\CR c' (bY h k (some o)) w (.slice a 0 0) (.ow k 0 .all):=by
 have key: ∃ty n,cU o=some ([],ty,n)/\0<n/\bc o=0/\dM o=[]:=by unfold Gy at D;split at D<;>first |(cases D;done) |(rw[Nat.blt_eq] at D;exact⟨_,_,rfl,D,rfl,rfl⟩)
 obtain⟨ty,n,h1,h2,F,J⟩:=key;obtain⟨c',g1,g2,g3,_⟩:=hC.setRow (k:=k) h1 h2 (v':=.slice a 0 0) (Ext.refl _ _) (fun b q=>by rw[Ub] at q;cases q) (s:=false) (fun q=>by cases q) (fun M q=>by rw[hk] at q;cases q) (xs:=[]) (.inl ⟨a,rfl,F,rfl⟩) (J▸.nil)
 grind
def M5 (i:Nat):aX->Option DC
 |.var _ l=>l[i]?
 |.bI _ _ _ _ _ q=>q[i]?
 |_=>none
def Bc (i:Nat) (x:DC):aX->aX
 |.var ty l=>.var ty (l.set i x)
 |.bI hs e t b l q=>.bI hs e t b l (q.set i x)
 |o=>o
theorem ay.set {α β:Type} {R:α->β->Prop} {us:List α} {l:List β} (h:ay R us l): ∀{i:Nat} {x x':β},l[i]? =some x->(∀u,R u x->R u x')->ay R us (l.set i x'):=by
 induction h with
 |nil=>grind
 |cons h t F=>
  intro i x x' e D;cases i with
  |zero=>cases e;exact .cons (D _ h) t
  |succ i=>exact .cons h (F e D)
theorem aa4 {R:Value->DC->Prop} {i:Nat} {x x':DC} {o:aX} (D:M5 i o=some x) (M: ∀u,R u x->R u x') {us:List Value} (hu:ay R us (dM o)):ay R us (dM (Bc i x' o)):=by
 cases o with
 |row=>cases D
 |var ty l=>exact hu.set D M
 |bI hs e t b l q=>
  cases b with
  |true=>exact hu
  |false=>have hu:ay R us (aT t l++q):=hu;have F:=hu.take (aT t l).length;have J:=hu.drop (aT t l).length;rw[List.take_left] at F;rw[List.drop_left] at J;rw[<-au6 (aT t l).length us];exact F.app (J.set D M)
theorem Conc.recell {E:cQ} {c:Cx} {h:Hp} {w:World} (hC:Conc E c h w) {q:Nat} {o o':aX} (D:h q=some o) (N:(∃hs e t b l r J,o=.bI hs e t b l r/\o'=.bI hs e t b l J)\/ ∃ty l F,o=.var ty l/\o'=.var ty F) (hc: ∀us,ay (CR c h w) us (dM o)->ay (CR c h w) us (dM o')):Conc E c (bY h q (some o')) w/\eN c h w c (bY h q (some o')) w:=by
 refine hC.put q (o':=o') (gl _ _ _) (fun j U=>⟨iG U,rfl⟩) rfl (Ext.refl _ _) (fun b O=>.inl ⟨⟨o,D⟩,O⟩) (s:=false) (fun q=>by cases q) (fun Y e=>?_) fun M=>?_
 · rw[D] at e;cases e;rcases N with⟨hs,e,t,b,l,r,J,rfl,rfl⟩ |⟨ty,l,F,rfl,rfl⟩
   · exact⟨_,rfl,.inl ⟨fun _ _ h=>h,.inl ⟨rfl,rfl⟩⟩⟩
   · exact⟨⟨_,rfl⟩,rfl⟩
 · have h1:=hC.obj q o D;rcases N with⟨hs,e,t,b,l,r,J,rfl,rfl⟩ |⟨ty,l,F,rfl,rfl⟩
   · obtain⟨h0,xs,g1,g2⟩:=h1.row rfl;exact⟨_,_,_,xs,rfl,h0,g1,(hc _ g2).mono fun _ _=>CR.fL M⟩
   · obtain⟨b,cs,g1,g2,g3⟩:=h1;exact⟨b,cs,g1,g2,(hc _ g3).mono fun _ _=>CR.fL M⟩
theorem Yw {i:Nat} {x x':DC} {o:aX} (D:M5 i o=some x):(∃hs e t b l r J,o=.bI hs e t b l r/\Bc i x' o=.bI hs e t b l J)\/ ∃ty l F,o=.var ty l/\Bc i x' o=.var ty F:=by
 cases o with
 |row=>cases D
 |var ty l=>exact .inr ⟨_,_,_,rfl,rfl⟩
 |bI=>exact .inl ⟨_,_,_,_,_,_,_,rfl,rfl⟩
def rcC:Sh->DC->DC
 |.v t,x=>match lE t,rC t x with|true,some d=>.v t d |_,_=>x
 |.dead,_=>.dead
 |_,x=>x
def OA:List Sh->List DC->List DC
 |s::r,x::q=>rcC s x::OA r q
 |_,q=>q
theorem ab1 {c:Cx} {h:Hp} {w:World}: ∀(l:List Sh) {q:List DC} {us:List Value},ay (CR c h w) us q->ay (CR c h w) us (OA l q)
 |[],_,_,hu=>hu
 |s::r,_,_,.nil=>.nil
 |s::r,_,_,.cons h1 D=>.cons (by
  unfold rcC;split
  · split
    · exact uf (by omega) (by omega) h1
    · omega
  · exact CR.one h1
  · exact h1) (ab1 r D)
inductive Gh where
 |ba (k:Nat)
 |dz (q k:Nat) (o:aX)
 |da (q i k:Nat) (o:aX)
 |vk (k:Nat) (t:Ty)
 |VD (k:Nat) (l:List Sh)
 |oG (k:Nat) (o:aX)
def Cl:Gh->aI->Option aI
 |.ba k,s=>Us k s
 |.vk k t,s=>Ur k t s
 |.oG k o,s=>match kt s.hp k&&Gy o with|true=>some ⟨s.sl,oset s.hp k o⟩ |false=>none
 |.dz q k o,s=>match kt s.hp k&&Gy o&&OE (bU s.sl q) with|true=>some ⟨oy s.sl q (.c (.ow k 0 .all)),oset s.hp k o⟩ |false=>none
 |.da q i k o,s=>match kt s.hp k&&Gy o,aj s.hp q with
  |true,some D=>match M5 i D with
   |some .nil=>some ⟨s.sl,oset (oset s.hp k o) q (Bc i (.ow k 0 .all) D)⟩
   |_=>none
  |_,_=>none
 |.VD k l,s=>match aj s.hp k with
  |some (.var ty q)=>some ⟨s.sl,oset s.hp k (.var ty (OA l q))⟩
  |_=>none
theorem FN {H:aG} {k:Nat} (h:kt H k=true):aj H k=none:=by simpa[kt] using h
theorem arF {g:Gh} {s O:aI} (h:Cl g s=some O):fH s O:=by
 cases g with
 |ba k=>exact aqM h
 |vk k t=>exact aqL h
 |oG k o=>
  simp[Cl] at h;split at h<;>try (cases h;done)
  rename_i D;rw[ae7] at D;cases h;intro E c w u hC hu;obtain⟨c',g1,g2,_⟩:=Tm hC (FN D.1) D.2 none;rw[<-jh] at g1 g2;exact⟨c',g1,fun t=>(hu t).fL g2⟩
 |dz q k o=>
  simp[Cl] at h;split at h<;>try (cases h;done)
  rename_i D;rw[ae7,ae7] at D;cases h;intro E c w u hC hu;obtain⟨a,U⟩:=TH D.2 (hu q);obtain⟨c',g1,g2,g3⟩:=Tm hC (FN D.1.1) D.1.2 a;rw[<-jh] at g1 g2 g3;refine⟨c',g1,fun t=>?_⟩;show SR _ _ _ _ (bU (mV s.sl (some q) _) t);rw[Fo];show SR _ _ _ _ (bY _ q _ t);by_cases e:t=q
  · subst e;rw[gl,U];exact g3
  · rw[iG e];exact(hu t).fL g2
 |da q i k o=>
  simp[Cl] at h;split at h<;>try (cases h;done)
  rename_i N D F;rw[ae7] at D;split at h<;>try (cases h;done)
  rename_i M;cases h;intro E c w u hC hu;obtain⟨c',g1,g2,g3⟩:=Tm hC (FN D.1) D.2 none;have Y:q≠k:=fun e=>by subst e;rw[FN D.1] at F;grind
  obtain⟨g4,g5⟩:=g1.recell (q:=q) (o:=N) (o':=Bc i (.ow k 0 .all) N) ((iG Y).trans F) (Yw M) fun us J=>aa4 M (fun v Z=>by rw[show v=_ from Z];exact g3) J
  rw[jh,jh];exact⟨c',g4,fun t=>((hu t).fL g2).fL g5⟩
 |VD k l=>
  simp[Cl] at h;split at h<;>try (cases h;done)
  rename_i ty q F;cases h;intro E c w u hC hu;obtain⟨g4,g5⟩:=hC.recell F (o':=.var ty (OA l q)) (.inr ⟨_,_,_,rfl,rfl⟩) fun us J=>ab1 l J;rw[jh];exact⟨c,g4,fun t=>(hu t).fL g5⟩
def vj:List Gh->aI->aI
 |[],s=>s
 |g::r,s=>vj r (match Cl g s with|some D=>D |none=>s)
theorem AP: ∀(l:List Gh) (s:aI),fH s (vj l s)
 |[],s=>fH.refl s
 |g::r,s=>by
  unfold vj;split
  · exact(arF (by omega)).trans (AP r _)
  · exact AP r _
inductive Un where
 |v (q i:Nat)
 |s (t:Nat)
def Nh (H:aG):DC->Option (Nat×Nat×DC)
 |.ow k g .all=>match aj H k with
  |some o=>match cU o,cD o g with
   |some (hs,_),some (some n)=>match Nat.beq g hs.length with|true=>none |false=>some (n,bc o,.ow k hs.length .all)
   |_,_=>none
  |none=>none
 |_=>none
theorem aba {H:aG} {x x':DC} {n m:Nat} (h:Nh H x=some (n,m,x')) (O:n=m) {c:Cx} {w:World} {u:Value} (hu:CR c (aj H) w u x):CR c (aj H) w u x':=by
 unfold Nh at h;split at h<;>try (cases h;done)
 split at h<;>try (cases h;done)
 rename_i o J;split at h<;>try (cases h;done)
 rename_i hs _ n' M U;split at h<;>try (cases h;done)
 simp[Prod.mk.injEq] at h;obtain⟨rfl,rfl,rfl⟩:=h;obtain⟨h1,o1,D,q,F,Z,ah,an,Y,N⟩:=hu;rw[J] at D;cases D;rw[U] at F;cases F;exact⟨h1,o,J,some (bc o),by simp [cD,M],_,_,_,M,fun m e=>by cases e;exact⟨ae5 _,fun _=>(N _ rfl).2 O⟩⟩
def Ui {R:Type} (u:Un) (s:aI) (K:aI->Option R):Option R:=
 match u with
 |.v q i=>match aj s.hp q with
  |some o=>match M5 i o with
   |some x=>match Nh s.hp x with
    |some (n,m,x')=>J (n=m) (K ⟨s.sl,oset s.hp q (Bc i x' o)⟩)
    |none=>K s
   |none=>K s
  |none=>K s
 |.s t=>match bU s.sl t with
  |.c x=>match Nh s.hp x with
   |some (n,m,x')=>J (n=m) (K ⟨oy s.sl t (.c x'),s.hp⟩)
   |none=>K s
  |_=>K s
theorem aqh {R:Type} {y:R} {u:Un} {s:aI} {K:aI->Option R} (h:Ui u s K=some y): ∃J,fH s J/\K J=some y:=by
 unfold Ui at h;split at h
 · split at h<;>try exact⟨s,fH.refl _,h⟩
   rename_i q i _ o M;split at h<;>try exact⟨s,fH.refl _,h⟩
   rename_i x F;split at h<;>try exact⟨s,fH.refl _,h⟩
   rename_i n m x' D;obtain⟨h1,h2⟩:=iE h;refine⟨_,fun E c w u hC hu=>?_,h2⟩;obtain⟨g4,g5⟩:=hC.recell M (Yw F) fun us O=>aa4 (x':=x') F (fun v U=>aba D h1 U) O;rw[jh];exact⟨c,g4,fun t=>(hu t).fL g5⟩
 · split at h<;>try exact⟨s,fH.refl _,h⟩
   rename_i t _ x N;split at h<;>try exact⟨s,fH.refl _,h⟩
   rename_i n m x' D;obtain⟨h1,h2⟩:=iE h;refine⟨⟨oy s.sl t (.c x'),s.hp⟩,fun E c w u hC hu=>⟨c,hC,fun q=>?_⟩,h2⟩;show SR _ _ _ _ (bU (mV s.sl (some t) _) q);rw[Fo];show SR _ _ _ _ (bY _ t _ q);by_cases e:q=t
   · subst e;rw[gl];have:=hu q;rw[N] at this;exact aba D h1 this
   · rw[iG e];grind
def MS {R:Type}:List Un->aI->(aI->Option R)->Option R
 |[],s,K=>K s
 |u::r,s,K=>Ui u s fun D=>MS r D K
theorem RV {R:Type} {y:R}: ∀{l:List Un} {s:aI} {K:aI->Option R},MS l s K=some y-> ∃D,fH s D/\K D=some y
 |[],s,K,h=>⟨s,fH.refl _,h⟩
 |u::r,s,K,h=>by obtain⟨s1,F,h1⟩:=aqh h;obtain⟨s2,J,h2⟩:=RV h1;exact⟨s2,F.trans J,h2⟩
def F9 (v:Value):List PanicEntry:=[{v:=v,recovered:=false}]
def dW (w:World) (c:Cx) (h:Hp):cQ:=⟨w,c.A,fun b=> ∃k,Bl c h k b,c.m,fun k=>if 1000<=k/\k<5000 then h k else none,[]⟩
inductive Ch where
 |ret (r:DS) (H1:aG)
 |dK (v:Value) (H1:aG)
def ve (E:cQ) (e:Ending) (c:Cx) (w:World):Ch->Prop
 |.ret r H1=> ∃v,e=.returned v/\Conc E c (aj H1) w/\SR c (aj H1) w v r
 |.dK D H1=>e=.panicked (F9 D)/\Conc E c (aj H1) w
def fo (P:Program) (f:FuncId) (args:List DS) (D:aG) (o:Ch):Prop:=
 ∀(c:Cx) (w:World) (vals:List Value),Conc (dW w c (aj D)) c (aj D) w->ay (SR c (aj D) w) vals args->Calls P f vals.toArray w fun e w'=> ∃c',ve (dW w c (aj D)) e c' w' o
@[reducible] def Ih:Bool×Shape->Type
 |(false,sh)=>cv sh
 |(true,sh)=>Value×cv sh
@[reducible] def JU:List (Bool×Shape)->Type
 |[]=>Empty
 |a::[]=>Ih a
 |a::r=>Ih a⊕JU r
def xJ:DS->Sum DC (List DC)
 |.c x=>.inl x
 |.agg l=>.inr l
 |_=>.inl .dead
def sr:cG->DS
 |[p]=>p.2
 |l=>.fk (l.map fun p=>xJ p.2)
def T3:(a:Bool×Shape)->Ih a->Ch
 |(false,sh),x=>.ret (sr (mkD sh x).sl) (mkD sh x).hp
 |(true,sh),x=>.dK x.1 (mkD sh x.2).hp
def mQ:(l:List (Bool×Shape))->JU l->Ch
 |[],x=>nomatch x
 |a::[],x=>T3 a x
 |a::b::r,x=>match x with|.inl x=>T3 a x |.inr x=>mQ (b::r) x
def nX:SS->Bool
 |.fn _ _ _=>false
 |_=>true
def pB (aF:Shape) (outs:List (Bool×Shape)):Bool:=
 Bb aF&&aF.hp.all (fun p=>Nat.ble 1000 p.1)&&outs.all (fun p=>Bb p.2&&p.2.sl.all (fun q=>nX q.2))
structure dh (P:Program) where
 f:FuncId
 aF:Shape
 outs:List (Bool×Shape)
 F:(R:Type)->cv aF->(JU outs->Option R)->Option R
 fm:pB aF outs=true
 ok: ∀(R:Type) (x:cv aF) (k:JU outs->Option R) (y:R),F R x k=some y-> ∃o,k o=some y/\fo P f ((mkD aF x).sl.map (·.2)) (mkD aF x).hp (mQ outs o)
abbrev Ps:=List (Nat×Nat)
def lk:Ps->Nat->Option Nat
 |[],_=>none
 |(j,k)::r,q=>match Nat.beq j q with|true=>some k |false=>lk r q
def OC (ps:Ps) (j k:Nat):Bool:=match lk ps j with|some q=>Nat.beq q k |none=>false
theorem ab4 {ps:Ps} {j k:Nat}:OC ps j k=true<->lk ps j=some k:=by
 unfold OC;cases lk ps j with
 |none=>simp
 |some q=>simp
def Bi (ps:Ps):Bool:=nD (ps.map (·.1))&&nD (ps.map (·.2))
theorem tS: ∀{l:List Nat} {k:Nat},eC l k=true<->k∈l
 |[],k=>by simp [eC]
 |q::r,k=>by unfold eC;rw[aw1,tS,at3,Nat.beq_eq,eq_comm]
theorem r7: ∀{ps:Ps} {j k:Nat},lk ps j=some k->(j,k)∈ps
 |(q,r)::ps,j,k,h=>by
  unfold lk at h;split at h
  · simp_all
  · exact av1 _ (r7 h)
theorem AN: ∀{ps:Ps} {j k:Nat},nD (ps.map (·.1))=true->(j,k)∈ps->lk ps j=some k
 |(q,r)::ps,j,k,D,h=>by
  simp[nD] at D;unfold lk;rcases at3.1 h with h |h
  · simp_all
  · have:Nat.beq q j=false:=by
      cases e:Nat.beq q j with
      |false=>rfl
      |true=>
       obtain rfl:=at7 e;have:=tS.2 (au0.2 ⟨_,h,rfl⟩:q∈ps.map (·.1))
       grind
    rw[this];exact AN D.2 h
theorem TG: ∀{ps:Ps} {i j k:Nat},nD (ps.map (·.2))=true->(i,k)∈ps->(j,k)∈ps->i=j
 |(q,r)::ps,i,j,k,D,h,h'=>by
  simp[nD] at D
  have no: ∀{i},(i,r)∈ps->False:=fun h=>by
   have:=tS.2 (au0.2 ⟨_,h,rfl⟩:r∈ps.map (·.2))
   grind
  rcases at3.1 h with h |h<;>rcases at3.1 h' with h' |h'
  · grind
  · grind
  · grind
  · exact TG D.2 h h'
def VF (H:aG) (k:Nat):Nat:=match aj H k with
 |some o=>match cU o with|some (hs,_)=>hs.length+1 |none=>0
 |none=>0
def rA (ps:Ps) (H:aG):DC->DC
 |.ow j 0 p=>match lk ps j with|some k=>.ow k (VF H k) p |none=>.dead
 |.ow _ _ _=>.dead
 |.ptr j i=>match lk ps j with|some k=>.ptr k i |none=>.dead
 |x=>x
def xK (ps:Ps) (H:aG) (hs:List (Option Nat)):aX->aX
 |.var ty l=>.var ty (l.map (rA ps H))
 |.row _ e t l=>.row hs e t l
 |.bI _ e t b l q=>.bI hs e t b l (q.map (rA ps H))
def Bm (j k:Nat) (D:aX):Option aX->Option (List (Option Nat))
 |none=>some []
 |some o=>match cU o,cU D with
  |some (hs,ty,wd),some (_,F,J)=>match Nat.blt j 5000 with
   |true=>some (hs++[some (bc o)])
   |false=>match free k&&Nat.beq ty F&&Nat.beq wd J with|true=>some (List.replicate (hs.length+1) none) |false=>none
  |none,none=>match Nat.blt j 5000 with|true=>some [] |false=>none
  |_,_=>none
theorem TK {j k:Nat} {o F:aX} {hs:List (Option Nat)} (h:Bm j k F (some o)=some hs):(j<5000/\((∃h0 ty wd,cU o=some (h0,ty,wd)/\hs=h0++[some (bc o)])\/cU o=none/\hs=[]))\/
  (free k=true/\ ∃h0 ty wd h1,cU o=some (h0,ty,wd)/\cU F=some (h1,ty,wd)/\hs=List.replicate (h0.length+1) none):=by
 simp[Bm] at h;split at h<;>try (cases h;done)
 · rename_i J M;split at h
   · simp_all
   · split at h<;>try (cases h;done)
     rename_i hf;simp only[ae7] at hf;obtain⟨⟨h1,h2⟩,D⟩:=hf;have h2:=at7 h2;have D:=at7 D;grind
 · rename_i J M;split at h<;>try (cases h;done)
   simp_all
theorem asl {j k:Nat} {H:aG} {F:aX} {hs:List (Option Nat)} (h:Bm j k F (aj H k)=some hs):hs.length=VF H k:=by
 unfold VF;cases e:aj H k with
 |none=>rw[e] at h;cases h;rfl
 |some o=>rw[e] at h;rcases TK h with⟨_,⟨h0,ty,wd,D,rfl⟩ |⟨D,rfl⟩⟩ |⟨_,h0,ty,wd,h1,D,_,rfl⟩<;>simp [D]
def uB (ps:Ps) (H H1:aG):Ps->Option aG
 |[]=>some H
 |(j,k)::r=>match uB ps H H1 r,aj H1 j with
  |some A,some D=>match Bm j k D (aj H k) with|some hs=>some (oset A k (xK ps H hs D)) |none=>none
  |_,_=>none
theorem SG {ps:Ps} {H H1:aG}: ∀{l:Ps} {A:aG},nD (l.map (·.2))=true->uB ps H H1 l=some A->(∀j k,(j,k)∈l-> ∃D hs,aj H1 j=some D/\Bm j k D (aj H k)=some hs/\aj A k=some (xK ps H hs D))/\ ∀k,k∉l.map (·.2)->aj A k=aj H k
 |[],A,_,h=>by cases h;grind
 |(j0,Z)::r,A,F,h=>by
  simp[nD] at F;unfold uB at h;split at h<;>try (cases h;done)
  rename_i A' D hA ho;split at h<;>try (cases h;done)
  rename_i hs ah;cases h;obtain⟨h1,h2⟩:=SG F.2 hA;have U: ∀k,k∈r.map (·.2)->k≠Z:=fun k hk e=>by subst e;rw[tS.2 hk] at F;grind
  refine⟨fun j k O=>?_,fun k hk=>?_⟩
  · rcases at3.1 O with e |e
    · simp_all[jh,gl]
    · obtain⟨o,Y,J,M,N⟩:=h1 j k e;exact⟨o,Y,J,M,by rw[jh,iG (U k (au0.2 ⟨_,e,rfl⟩))];exact N⟩
  · rw[ay3,at3,not_or] at hk;rw[jh,iG hk.1];exact h2 k hk.2
def c0 (ps:Ps) (c:Cx):Cx:=⟨fun j=>match lk ps j with|some k=>c.m k |none=>undef,c.A⟩
section
variable {E:cQ} {c:Cx} {h h0:Hp} {w:World} {ps:Ps}
theorem Conc.enter (hC:Conc E c h w) (h1:Bi ps=true) (hk: ∀j o',h0 j=some o'-> ∃k o,lk ps j=some k/\h k=some o/\nz (c0 ps c) h0 w j o'):Conc (dW w (c0 ps c) h0) (c0 ps c) h0 w:=by
 unfold Bi at h1;rw[ae7] at h1;have F: ∀j b,Bl (c0 ps c) h0 j b-> ∃k,lk ps j=some k/\Bl c h k b:=fun j b ⟨⟨o',e⟩,D⟩=>by obtain⟨k,o,J,N,_⟩:=hk j o' e;exact⟨k,J,⟨o,N⟩,by unfold c0 at D;simp[J] at D;exact D⟩
 refine⟨fun j o' e=>(hk j o' e).choose_spec.choose_spec.2.2,fun j Y b e M=>?_,fun j b i e M=>?_,hC.lt,⟨fun b i q=>⟨fun⟨j,e⟩=>?_,hC.lt b i q⟩,fun⟨j,e⟩=>?_,hC.Oz⟩,fun _ _ q=>q,fun _ _ q=>.inl q,fun j b e=>.inl ⟨j,e⟩,Ext.refl _ _,fun k o e=>?_⟩
 · obtain⟨k,O,D⟩:=F j b e;obtain⟨Z,J,N⟩:=F Y b M;obtain rfl:=hC.inj k Z b D N;exact TG h1.2 (r7 O) (r7 J)
 · obtain⟨k,_,D⟩:=F j b e;exact hC.jX k b i D M
 · obtain⟨k,_,D⟩:=F j b e;exact hC.jX k b i D q
 · obtain⟨k,_,D⟩:=F j _ e;rcases hC.own k _ D with q |q
   · exact hC.nE.2.1 q
   · have:=hC.nE.2.2.lt;omega
 · have e:(if 1000<=k/\k<5000 then h0 k else none)=some o:=e
   split at e<;>try (cases e;done)
   rename_i U;exact⟨U,o,e,(OL.refl false _ _).pl⟩
theorem Conc.back (hC:Conc E c h w) (h1:Bi ps=true) (hk: ∀j o',h0 j=some o'-> ∃k o,lk ps j=some k/\h k=some o/\nG o o') {H H1 A:aG} (b3:Sub H h) (cd: ∀j k,lk ps j=some k-> ∀o,aj H k=some o-> ∃o',h0 j=some o'/\nG o o') (b4: ∀j k,lk ps j=some k->aj H k=none->h k=none) (hb:uB ps H H1 ps=some A)
  {c1:Cx} {w':World} (U:Conc (dW w (c0 ps c) h0) c1 (aj H1) w') (ch: ∀j D,aj H1 j=some D-> ∀hs ty wd,cU D=some (hs,ty,wd)->hs=[]) (b8: ∀j o',h0 j=some o'->1000<=j):
  ∃c',Conc E c' (bC h (aj A)) w'/\eN c h w c' (bC h (aj A)) w'/\ ∀u x,CR c1 (aj H1) w' u x->CR c' (bC h (aj A)) w' u (rA ps H x):=by
 unfold Bi at h1;rw[ae7] at h1;obtain⟨f1,f2⟩:=SG h1.2 hb
 let c':Cx:=⟨fun k=>match ps.find? (fun p=>p.2==k) with|some p=>c1.m p.1 |none=>c.m k,c1.A⟩
 have hm: ∀j k,(j,k)∈ps->c'.m k=c1.m j:=fun j k M=>by
  show(match ps.find? (fun p=>p.2==k) with|some p=>c1.m p.1 |none=>c.m k)=_
  cases e:ps.find? (fun p=>p.2==k) with
  |none=>have:=List.find?_eq_none.1 e _ M;simp at this
  |some p=>
   have J:p.2=k:=by simpa using List.find?_some e
   obtain⟨p1,p2⟩:=p;subst J;rw[TG h1.2 M (List.mem_of_find?_eq_some e)]
 have hn: ∀k,k∉ps.map (·.2)->c'.m k=c.m k/\bC h (aj A) k=h k:=fun k hk=>by
  refine⟨?_,?_⟩
  · show(match ps.find? (fun p=>p.2==k) with|some p=>c1.m p.1 |none=>c.m k)=_
    rw[List.find?_eq_none.2 fun p hp=>by simp;intro e;exact hk (au0.2 ⟨p,hp,e⟩)]
  · unfold bC;rw[f2 k hk];cases e:aj H k with
    |none=>rfl
    |some o=>rw[b3 k o e];rfl
 have a6: ∀k,k∈ps.map (·.2)-> ∃j,(j,k)∈ps:=fun k hk=>by obtain⟨⟨j,k'⟩,e,rfl⟩:=au0.1 hk;exact⟨j,e⟩
 have ho: ∀j k,(j,k)∈ps-> ∃D hs,aj H1 j=some D/\Bm j k D (aj H k)=some hs/\bC h (aj A) k=some (xK ps H hs D):=fun j k M=>by obtain⟨D,hs,N,J,e3⟩:=f1 j k M;exact⟨D,hs,N,J,by unfold bC;rw[e3];rfl⟩
 have hF: ∀b,(dW w (c0 ps c) h0).F b-> ∃j k,(j,k)∈ps/\Bl c h k b:=fun b ⟨j,⟨o',e⟩,J⟩=>by obtain⟨k,o,e3,e4,_⟩:=hk j o' e;exact⟨j,k,r7 e3,⟨o,e4⟩,by unfold c0 at J;simp[e3] at J;exact J⟩
 have a7: ∀k b,k∉ps.map (·.2)->Bl c h k b-> ¬(dW w (c0 ps c) h0).F b:=fun k b hk hb hf=>by obtain⟨j,k',N,J⟩:=hF b hf;obtain rfl:=hC.inj k k' b hb J;exact hk (au0.2 ⟨_,N,rfl⟩)
 have an: ∀D hs,cU (xK ps H hs D)=(cU D).map (fun q=>(hs,q.2))/\bc (xK ps H hs D)=bc D:=fun D hs=>by cases D<;>exact⟨rfl,rfl⟩
 have b6: ∀j k o D,(j,k)∈ps->aj H k=some o->j<5000->aj H1 j=some D->PL (c.m k) o (c1.m j) D:=fun j k o D M ar aE N=>by
  have ah:=AN h1.1 M;obtain⟨o',e4,e5⟩:=cd j k ah o ar;have ca:(c0 ps c).m j=c.m k:=by unfold c0;simp[ah]
  obtain⟨_,oq,O,Z⟩:=U.fV j o' (by show(if 1000<=j/\j<5000 then h0 j else none)=some o';rw[if_pos ⟨b8 j o' e4,aE⟩];exact e4)
  rw[N] at O;cases O;exact e5.pl.trans (by rw[<-ca];exact Z)
 have b5:eN c h w c' (bC h (aj A)) w':=by
  refine⟨fun k o e=>?_,fun b i v N J=>⟨U.le _ _ N,U.ext.cell (fun hf=>?_) J⟩⟩
  · by_cases Y:k∈ps.map (·.2)
    · obtain⟨j,M⟩:=a6 k Y;obtain⟨D,hs,N,J,e3⟩:=ho j k M;have ah:=AN h1.1 M
      have ar:aj H k=some o:=by
       cases eH:aj H k with
       |none=>rw[b4 j k ah eH] at e;cases e
       |some o2=>rw[b3 k o2 eH] at e;exact e
      refine⟨_,e3,?_⟩;rw[ar] at J;rw[hm j k M];rcases TK J with⟨aE,hq⟩ |⟨_,az,ty,wd,cp,hr,b7,rfl⟩
      · have hp:=b6 j k o D M ar aE N;unfold PL at hp;unfold OL;rcases hq with⟨az,ty,wd,hr,rfl⟩ |⟨hr,rfl⟩
        · rw[hr] at hp⊢;obtain⟨c3,q3,q4⟩:=hp;exact⟨az++[some (bc o)],by rw[(an _ _).1,q3];rfl,.inl ⟨fun g n q=>Zy hr (by rw[(an _ _).1,q3];rfl) rfl q,by rw[(an _ _).2];exact q4⟩⟩
        · rw[hr] at hp⊢;cases o with
          |var ty l=>obtain⟨⟨l2,rfl⟩,q4⟩:=hp;exact⟨⟨_,rfl⟩,q4⟩
          |_=>cases hr
      · unfold OL;rw[hr];refine⟨List.replicate (az.length+1) none,by rw[(an _ _).1,b7];rfl,.inr ⟨rfl,fun g n q=>?_⟩⟩
        unfold cD at q⊢;rw[hr] at q;have hg:=(av7.1 q).1;rw[as0] at hg;have hg:g<az.length+1:=hg;rw[(an _ _).1,b7];show(List.replicate (az.length+1) none++[_])[g]? =some none;rw[ax8 (by grind),List.getElem?_replicate,if_pos hg]
    · obtain⟨N,J⟩:=hn k Y;exact⟨o,by rw[J];exact e,by rw[N];exact OL.refl _ _ _⟩
  · obtain⟨j,k,_,av⟩:=hF b hf;exact hC.jX k b i av N
 have a8: ∀u x,CR c1 (aj H1) w' u x->CR c' (bC h (aj A)) w' u (rA ps H x):=by
  intro u x hu;unfold rA;split
  · rename_i j p;split
    · rename_i k ah;obtain⟨bx,D,N,n,J,cx,ty,wd,e3,e4⟩:=hu;have M:=r7 ah;obtain⟨cj,hs,g1,g2,g3⟩:=ho j k M;rw[N] at g1;cases g1;obtain rfl:=ch j D N _ _ _ e3;have e5:cD D 0=some (some (bc D)):=by simp [cD,e3]
      rw[e5] at J;cases J;have cc:=asl g2;refine⟨bx,_,g3,some (bc D),by rw[<-cc];simp [cD,(an _ _).1,(an _ _).2,e3],hs,ty,wd,by rw[(an _ _).1,e3];rfl,fun m bp=>?_⟩
      injection bp with bp;subst bp;rw[(an _ _).2,hm j k M];exact e4 _ rfl
    · exact CR.one hu
  · exact CR.one hu
  · rename_i j i;split
    · rename_i k ah;obtain⟨bx,D,N,⟨ty,l,rfl⟩,J⟩:=hu;obtain⟨cj,hs,g1,g2,g3⟩:=ho j k (r7 ah);rw[N] at g1;cases g1;exact⟨bx,_,g3,⟨_,_,rfl⟩,by rw[hm j k (r7 ah)];exact J⟩
    · exact CR.one hu
  · rename_i O Z q3;cases x with
    |ow j g p=>cases g with
     |zero=>exact(O _ _ rfl).elim
     |succ g=>exact(Z _ _ _ rfl).elim
    |ptr j i=>exact(q3 _ _ rfl).elim
    |_=>exact hu
 have av: ∀k b,Bl c' (bC h (aj A)) k b->(k∉ps.map (·.2)/\Bl c h k b)\/ ∃j,(j,k)∈ps/\Bl c1 (aj H1) j b:=fun k b ⟨⟨o,N⟩,J⟩=>by
  by_cases Y:k∈ps.map (·.2)
  · obtain⟨j,M⟩:=a6 k Y;obtain⟨D,hs,g1,_⟩:=ho j k M;exact .inr ⟨j,M,⟨D,g1⟩,by rw[<-hm j k M];exact J⟩
  · obtain⟨g1,g2⟩:=hn k Y;exact .inl ⟨Y,⟨o,by rw[<-g2];exact N⟩,by rw[<-g1];exact J⟩
 have b0: ∀j b,Bl c1 (aj H1) j b->(dW w (c0 ps c) h0).F b\/w.heap.size<=b:=fun j b e=>U.own j b e;have bb: ∀b,(dW w (c0 ps c) h0).F b->E.F b\/E.w.heap.size<=b:=fun b e=>by obtain⟨_,k,_,J⟩:=hF b e;exact hC.own k b J
 refine⟨c',⟨fun k o e=>?_,fun k k' b e e'=>?_,fun k b i e e'=>?_,U.lt,hC.nE,fun b i e=>U.le b i (hC.le b i e),fun b i e=>?_,fun k b e=>?_,hC.ext.trans U.ext fun b e J=>?_,fun k o e=>?_⟩,b5,a8⟩
 · by_cases Y:k∈ps.map (·.2)
   · obtain⟨j,M⟩:=a6 k Y;obtain⟨D,hs,g1,g2,g3⟩:=ho j k M;rw[g3] at e;cases e;have h5:=U.obj j D g1;have flat: ∀{t:Ty} {l:List (den t)},(aT t l).map (rA ps H)=aT t l:=(az2 fun x hx=>by obtain⟨t,d,rfl⟩:=uy _ _ hx;rfl).trans (List.map_id _)
     cases D with
     |var ty l=>obtain⟨b,cs,O,Z,q3⟩:=h5;exact⟨b,cs,(hm j k M).trans O,Z,q3.imp a8⟩
     |row _ e t l=>
      obtain⟨q0,xs,O,Z⟩:=h5.row rfl;have:=Z.imp a8;rw[show(dM (.row _ e t l)).map (rA ps H)=dM (xK ps H hs (.row _ e t l)) from flat] at this
      exact⟨_,_,_,xs,rfl,q0,by rw[hm j k M];exact O,this⟩
     |bI _ e t b l q=>
      obtain⟨q0,xs,O,Z⟩:=h5.row rfl;have:=Z.imp a8
      rw[show(dM (.bI _ e t b l q)).map (rA ps H)=dM (xK ps H hs (.bI _ e t b l q)) from by
       cases b with
       |true=>rfl
       |false=>show(aT t l++q).map _=aT t l++q.map _;rw[at4,flat]] at this
      exact⟨_,_,_,xs,rfl,q0,by rw[hm j k M];exact O,this⟩
   · obtain⟨g1,g2⟩:=hn k Y;rw[g2] at e;have h5:=hC.obj k o e;exact h5.imp (fun _ _=>CR.fL b5) g1 fun b hb=>U.ext.block b (h5.lt hb) (a7 k b Y ⟨⟨o,e⟩,hb⟩)
 · rcases av k b e with⟨a1,a2⟩ |⟨j,a1,a2⟩<;>rcases av k' b e' with⟨b1,b2⟩ |⟨j',b1,b2⟩
   · exact hC.inj k k' b a2 b2
   · rcases b0 j' b b2 with q |q
     · exact(a7 k b a1 a2 q).elim
     · have:=hC.blt a2;omega
   · rcases b0 j b a2 with q |q
     · exact(a7 k' b b1 b2 q).elim
     · have:=hC.blt b2;omega
   · obtain rfl:=U.inj j j' b a2 b2;have N:=AN h1.1 a1;rw[AN h1.1 b1] at N;injection N with N;exact N.symm
 · rcases av k b e with⟨a1,a2⟩ |⟨j,a1,a2⟩
   · rcases U.new b i e' with q |q |q
     · exact hC.jX k b i a2 q
     · have:=hC.blt a2;have q:w.heap.size<=b:=q;omega
     · exact a7 k b a1 a2 q
   · exact U.jX j b i a2 e'
 · rcases U.new b i e with q |q |q
   · exact hC.new b i q
   · exact .inr (.inl (au2 hC.ext.size q))
   · exact .inr (bb b q).symm
 · rcases av k b e with⟨a1,a2⟩ |⟨j,a1,a2⟩
   · exact hC.own k b a2
   · rcases b0 j b a2 with q |q
     · exact bb b q
     · exact .inr (au2 hC.ext.size q)
 · rcases bb b J with q |q
   · exact q
   · omega
 · obtain⟨hr,D,O,Z⟩:=hC.fV k o e;refine⟨hr,?_⟩;by_cases Y:k∈ps.map (·.2)
   · obtain⟨j,M⟩:=a6 k Y;obtain⟨o3,hs,g1,g2,g3⟩:=ho j k M
     have ar:aj H k=some D:=by
      cases eH:aj H k with
      |none=>rw[b4 j k (AN h1.1 M) eH] at O;cases O
      |some o2=>rw[b3 k o2 eH] at O;exact O
     rw[ar] at g2;rcases TK g2 with⟨aE,hq⟩ |⟨hf,_⟩
     · have hp:=b6 j k D o3 M ar aE g1;refine⟨_,g3,Z.trans (hp.trans ?_)⟩;rw[hm j k M];unfold PL;cases o3 with
       |var ty l=>exact⟨⟨_,rfl⟩,rfl⟩
       |_=>exact⟨_,rfl,.inl ⟨rfl,rfl⟩⟩
     · rw[aas hC hf] at e;cases e
   · obtain⟨g1,g2⟩:=hn k Y;exact⟨D,by rw[g2];exact O,by rw[g1];exact Z⟩
end
def OF (P:Program) (f:FuncId):Bool:=
 match P.funcs[f]? with
 |some fn=>fn.name != "runtime.NumGoroutine" &&fn.body.isSome
 |none=>false
theorem ajq {P:Program} {f:FuncId} (h:OF P f=true) (args:Array Value) (w:World):(callFunc f args).run P w=.ok (.enter f args) w:=by
 unfold OF at h;split at h
 · rename_i fn hf;simp[bne_iff_ne] at h;obtain⟨h1,h2⟩:=h;cases D:fn.body with
   |none=>grind
   |some b=>simp [callFunc,hf,h1,D]
 · grind
def Nq (s:cG) (y:Operand):Option (FuncId×List DC×List DC):=
 match bB s y with
 |some (.fn (.func f) a b)=>some (f,a,b)
 |some (.c (.mu f))=>some (f,[],[])
 |_=>none
def OJ (s:cG):List Operand->Option (List DS)
 |[]=>some []
 |x::r=>match bB s x,OJ s r with|some v,some l=>some (v::l) |_,_=>none
def M8 (s:cG) (a:List DC) (xs:List Operand) (b:List DC):Option (List DS):=
 match OJ s xs with|some l=>some (a.map .c++l++b.map .c) |none=>none
section
variable {P:Program} {c:Cx} {h:Hp} {w:World} {E:cQ} {H:aG} {σ:cG} {dst:Option Tmp} {ty0:TypeId} {pos:String} {af:Array Edge} {g:Option (Nat×Bool)} {v:DS}
theorem aaP {f:FuncId} {y:Operand} {xs:List Operand} {a:List DC} {b:List DC} {l:List DS} {ats:Array TypeId} {e:Operand->Value} (hG:OF P f=true) (D:Nq σ y=some (f,a,b)) (J:M8 σ a xs b=some l)
  (O: ∀x∈(Op.call {callee:=.value y,args:=xs.toArray,argTypes:=ats}).operands,∀d,bB σ x=some d->SR c h w (e x) d): ∃vals:List Value,(execOp e ⟨dst,.call {callee:=.value y,args:=xs.toArray,argTypes:=ats},ty0,pos,af,g⟩).run P w=.ok (.enter f vals.toArray) w/\ay (SR c h w) vals l:=by
 have hf: ∃vs us:List Value,e y=.func (.func f) vs.toArray us.toArray/\ay (CR c h w) vs a/\ay (CR c h w) us b:=by
  unfold Nq at D;split at D<;>try (cases D;done)
  · rename_i M;injection D with D;injection D with h1 h2;injection h2 with h2 N;subst h1;subst h2;subst N;exact O y (by simp [Op.operands,Call.operands]) _ M
  · rename_i M;injection D with D;injection D with h1 h2;injection h2 with h2 N;subst h1;subst h2;subst N;exact⟨[],[],O y (by simp [Op.operands,Call.operands]) _ M,.nil,.nil⟩
 obtain⟨vs,us,Y,h1,h2⟩:=hf;refine⟨vs++xs.map e++us,by simp [execOp,resolve,Deferred.ofValue,invoke,Y,ajq hG],?_⟩
 have Z: ∀{xs:List Operand} {q:List DS},OJ σ xs=some q->(∀x∈xs,∀d,bB σ x=some d->SR c h w (e x) d)->ay (SR c h w) (xs.map e) q:=by
  intro xs
  induction xs with
  |nil=>intro q F _;cases F;exact .nil
  |cons x r ih=>
   intro q F U;unfold OJ at F;split at F<;>try (cases F;done)
   rename_i M J;cases F;exact .cons (U x at9 _ M) (ih J fun z hz=>U z (av1 _ hz))
 unfold M8 at J;split at J<;>try (cases J;done)
 rename_i q F;cases J;exact((h1.imp (R':=SR c h w) (f:=.c) fun _ _ q=>q).app (Z F fun x ah=>O x (by simp [Op.operands,Call.operands,ah]))).app (h2.imp (R':=SR c h w) (f:=.c) fun _ _ q=>q)
end
def uG:Nat->List DS->cG
 |_,[]=>[]
 |k,x::r=>(k,x)::uG (k+1) r
theorem aaT: ∀{l:List DS} {k i:Nat} {d:DS},l[i]? =some d->bU (uG k l) (k+i)=d
 |x::r,k,0,d,h=>by cases h;exact if_pos rfl
 |x::r,k,i+1,d,h=>by
  show(if k=k+(i+1) then x else bU (uG (k+1) r) (k+(i+1)))=d
  rw[if_neg (by simp),show k+(i+1)=k+1+i by omega]
  exact aaT (l:=r) h
def od (k:Nat):List (Nat×SS)->Bool
 |[]=>true
 |p::r=>Nat.beq p.1 k&&od (k+1) r
theorem mkSl_keys {X:Type}:(l:List (Nat×SS))->(v:p4 X l)->(mkSl l v).1.map (·.1)=l.map (·.1)
 |[],_=>rfl
 |p::r,v=>by show p.1::(mkSl r (mkS p.2 v).2).1.map (·.1)=_;rw[mkSl_keys r];rfl
theorem Sk: ∀{q:List (Nat×SS)} {l:cG} {k i:Nat} {p:Nat×DS},od k q=true->l.map (·.1)=q.map (·.1)->l[i]? =some p->bU l (k+i)=p.2
 |[],l,k,i,p,_,e,h=>by have:l=[]:=List.map_eq_nil_iff.1 e;grind
 |a::q,[],k,i,p,_,e,h=>nomatch e
 |a::q,(x,d)::l,k,i,p,hk,e,h=>by
  unfold od at hk;rw[ae7] at hk;have h1:=at7 hk.1;simp[List.cons.injEq] at e;have D:x=k:=by rw[e.1,h1]
  subst D;cases i with
  |zero=>cases h;exact if_pos rfl
  |succ i=>
   show(if x=x+(i+1) then d else bU l (x+(i+1)))=_
   rw[if_neg (by simp),show x+(i+1)=x+1+i by omega]
   exact Sk hk.2 e.2 h
def sB (H:aG):Nat->(t:Ty)->DC->Option (den t)
 |0,t,c=>rC t c
 |n+1,.sl t,c=>match c with
  |.ow k g .all=>match rowAt H k g with
   |some (.row _ _ D l)=>match mT D t with|some h=>some (h.down▸l:List (den t)) |none=>none
   |some (.bI _ _ D e l last)=>match mT D t,pF (lV (sB H n) D last) with|some h,some x=>some (h.down▸cond e [] (l++[x]):List (den t)) |_,_=>none
   |_=>none
  |c=>rC (.sl t) c
 |n+1,.ptr t,c=>match c with
  |.ptr k 0=>match aj H k with
   |some (.var _ q)=>pF (lV (sB H n) t q)
   |_=>none
  |c=>rC (.ptr t) c
 |n+1,t,c=>rC t c
def cb (c:Cx) (h:Hp):Cx:=⟨fun _=>undef,fun b i=>c.A b i\/ ∃k,Bl c h k b⟩
abbrev eU:Hp:=aj []
theorem abH {E:cQ} {c:Cx} {h:Hp} {w:World} (hC:Conc E c h w) {H:aG} (hs:Sub H h): ∀(n:Nat) (t:Ty) (x:DC) (d:den t) (u:Value),lE t=true->sB H n t x=some d->CR c h w u x->CR (cb c h) eU w u (.v t d):=by
 have Z:uC c.A w (cb c h).A w:=fun b i v h1 h2=>⟨.inl h1,h2⟩;have up: ∀{t:Ty} {d:den t} {u:Value},CR c h w u (.v t d)->CR (cb c h) eU w u (.v t d):=fun hu=>⟨hu.1,hu.2.mono Z _ fun _ _ q=>q⟩;have fl: ∀{t:Ty} {l:List (den t)} {us:List Value},ay (CR c h w) us (aT t l)->ay (CR (cb c h) eU w) us (aT t l):=fun{t l us} hu=>ay.of hu.len fun i u x h1 h2=>by obtain⟨u',O,e2⟩:=hu.get h2;rw[h1] at O;cases O;obtain⟨t',d',rfl⟩:=uy _ _ (List.mem_of_getElem? h2);grind
 have row: ∀{k g:Nat} {o:aX} {t:Ty} {l:List (den t)} {u:Value},rowAt H k g=some o->CR c h w u (.ow k g .all)->(∃hs ty,cU o=some (hs,ty,wid t))->bc o=l.length->(∀us,ay (CR c h w) us (dM o)->ay (CR (cb c h) eU w) us (aT t l))->CR (cb c h) eU w u (.v (.sl t) l):=by
  intro k g o t l u F hu ⟨ah,ty,hr⟩ hl hc;obtain⟨_,_,_,_,hm⟩:=iJ (w:=w) hs F hu;have hk:=hs _ _ (jG F).1;obtain⟨_,xs,g1,g2⟩:=(hC.obj k o hk).row hr;rw[show u=c.m k from hm]
  rw[hl] at g1;exact R9 g1 (hc _ g2) fun b i D=>.inr ⟨k,⟨o,hk⟩,D⟩
 intro n
 induction n with
 |zero=>intro t x d u J D hu;exact up (uf J D hu)
 |succ n ih=>
  intro t x d u J D hu;have jn: ∀{t:Ty} {q:List DC} {d:den t} {us:List Value},pF (lV (sB H n) t q)=some d->ay (CR c h w) us q->ay (CR (cb c h) eU w) us (cA t d):=fun{t q d us} hj hu=>by obtain⟨l1,e,h3⟩:=FL (Q:=CR c h w) (Q':=CR (cb c h) eU w) (fun t x d v J M Y=>ih t x d v J M Y) t (Fl hj);grind
  cases t with
  |sl t=>
   unfold sB at D;split at D
   · split at D<;>try (cases D;done)
     · rename_i F;split at D<;>try (cases D;done)
       rename_i e _;obtain⟨e⟩:=e;subst e;cases D;exact row F hu ⟨_,_,rfl⟩ rfl fun us q=>fl q
     · rename_i N l last F;split at D<;>try (cases D;done)
       rename_i e x' _ M;obtain⟨e⟩:=e;subst e;cases D;refine row F hu ⟨_,_,rfl⟩ (by cases N<;>simp [bc]) fun us q=>?_
       cases N with
       |true=>have q:=q;cases q;exact .nil
       |false=>have q:ay (CR c h w) us (aT _ l++last):=q;show ay _ _ (aT _ (l++[x']));rw[qu];have U:=q.take (aT _ l).length;have D:=q.drop (aT _ l).length;rw[List.take_left] at U;rw[List.drop_left] at D;rw[<-au6 (aT _ l).length us];exact(fl U).app (by simpa[aT] using jn M D)
   · exact up (uf J D hu)
  |ptr t=>
   unfold sB at D;split at D
   · split at D<;>try (cases D;done)
     rename_i k _ ty q F;obtain⟨b,hm,rfl⟩:=F5 (w:=w) hs F hu;obtain⟨b',cs,g1,g2,g3⟩:=hC.obj k _ (hs _ _ F);rw[hm] at g1;injection g1 with g1;injection g1 with g1;cases g1;refine⟨rfl,b,0,rfl,(CG.tr (c:=cb c h) (h:=eU) t).1 (CG.of (jn D g3) fun i v Y=>⟨.inr ⟨k,⟨_,hs _ _ F⟩,by rw[hm];rfl⟩,?_⟩)⟩
     rw[cell_of g2];grind
   · exact up (uf J D hu)
  |pair=>cases J
  |unit=>cases J
  |_=>exact up (uf J D hu)
def Nu (H:aG):PC:=fun X s c x=>match s with
 |.v t=>match lE t with
  |true=>match sB H 3 t c with|some q=>some (q,x) |none=>none
  |false=>none
 |s=>uo (fun _ _=>false) H X s c x
def kv:Ty->Bool
 |.int _=>true
 |.bool=>true
 |.str=>true
 |.gB _=>true
 |.val=>true
 |.unit=>true
 |.pair a b=>kv a&&kv b
 |_=>false
def TM:Sh->Bool
 |.v t=>kv t
 |.kb _=>true
 |_=>false
def aca:SS->Bool
 |.c x=>TM x
 |.st t=>kv t
 |.agg l=>l.all TM
 |_=>false
def asm (l:List (Bool×Shape)):Bool:=l.all fun p=>p.2.sl.all fun q=>aca q.2
def ar9 (l:List (Bool×Shape)):Bool:=l.all fun p=>p.2.hp.isEmpty
def inL (l:List Nat) (d:Option Tmp):Bool:=match d with|some d=>eC l d |none=>true
def Cj (l:List Nat) (d:Option Tmp):Bool:=match d with|some d=>eC l d |none=>false
def Nj:List (Nat×Ps)->Option Tmp->Ps
 |[],_=>[]
 |(q,ps)::r,d=>match Nat.beq q (d.getD 1000000) with|true=>ps |false=>Nj r d
section
variable {R:Type}
def Gv:(l:List (Bool×Shape))->JU l->((sh:Shape)->cv sh->Option R)->(Value->(sh:Shape)->cv sh->Option R)->Option R
 |[],_,_,_=>none
 |(false,sh)::[],o,K,KP=>K sh o
 |(true,sh)::[],o,K,KP=>KP o.1 sh o.2
 |(false,sh)::b::r,o,K,KP=>match o with
  |.inl v=>K sh v
  |.inr v=>Gv (b::r) v K KP
 |(true,sh)::b::r,o,K,KP=>match o with
  |.inl v=>KP v.1 sh v.2
  |.inr v=>Gv (b::r) v K KP
theorem Lw {y:R} {K:(sh:Shape)->cv sh->Option R} {KP:Value->(sh:Shape)->cv sh->Option R}: ∀{l:List (Bool×Shape)} {o:JU l},Gv l o K KP=some y->
  (∃sh v,(false,sh)∈l/\mQ l o=.ret (sr (mkD sh v).sl) (mkD sh v).hp/\K sh v=some y)\/(∃sh F v,(true,sh)∈l/\mQ l o=.dK F (mkD sh v).hp/\KP F sh v=some y)
 |[],o,h=>nomatch o
 |(false,sh)::[],o,h=>.inl ⟨sh,o,at9,rfl,h⟩
 |(true,sh)::[],o,h=>.inr ⟨sh,o.1,o.2,at9,rfl,h⟩
 |(false,sh)::b::r,o,h=>by
  cases o with
  |inl v=>exact .inl ⟨sh,v,at9,rfl,h⟩
  |inr v=>exact(Lw (l:=b::r) h).imp (fun⟨sh,v,h1,h2,D⟩=>⟨sh,v,av1 _ h1,h2,D⟩) fun⟨sh,F,v,h1,h2,D⟩=>⟨sh,F,v,av1 _ h1,h2,D⟩
 |(true,sh)::b::r,o,h=>by
  cases o with
  |inl v=>exact .inr ⟨sh,v.1,v.2,at9,rfl,h⟩
  |inr v=>exact(Lw (l:=b::r) h).imp (fun⟨sh,v,h1,h2,D⟩=>⟨sh,v,av1 _ h1,h2,D⟩) fun⟨sh,F,v,h1,h2,D⟩=>⟨sh,F,v,av1 _ h1,h2,D⟩
def T2 (rd:Bool) (ps:Ps) (aF:Shape) (l:List DS) (H:aG):Option (cv aF):=
 match Nat.beq aF.sl.length l.length&&od 0 aF.sl with
 |true=>match rd,aF with
  |true,⟨sl,[]⟩=>AJ (Nu H) (fun t l=>pF (lV (sB H 3) t l)) (uG 0 l) sl ()
  |true,_=>none
  |false,aF=>proj (OC ps) (fun j=>(lk ps j).bind (aj H)) aF ⟨uG 0 l,H⟩
 |false=>none
def wX (ps:Ps) (H H1:aG) (K:aG->Option R):Option R:=match uB ps H H1 ps with|some A=>K A |none=>none
def pk (P:Program) (f:FuncId) (l:List DS) (ow rd:Bool) (ps:Ps) (H:aG) (K:DS->aG->Option R) (KP:Value->aG->Option R):List (dh P)->Option R
 |[]=>none
 |g::r=>match Nat.beq g.f f&&(ow||(g.aF.hp.isEmpty&&ar9 g.outs)) with
  |false=>pk P f l ow rd ps H K KP r
  |true=>match T2 (rd&& !ow) ps g.aF l H with
   |none=>pk P f l ow rd ps H K KP r
   |some x=>only (OF P f&&Bi ps&&ps.all fun p=>kt H p.2||eC (g.aF.hp.map (·.1)) p.1) (match rd&& !ow with
    |true=>only (asm g.outs) (g.F R x fun o=>Gv g.outs o (fun sh v=>K (sr (mkD sh v).sl) H) fun _ _ _=>none)
    |false=>g.F R x fun o=>Gv g.outs o (fun sh v=>wX ps H (mkD sh v).hp (K (sw (rA ps H) (sr (mkD sh v).sl)))) fun D sh v=>wX ps H (mkD sh v).hp (KP D))
end
def Ic (P:Program) (o:Oper) (σ:cG) (H:aG) (D:Value) (H':aG):Prop:=
 ∀(E:cQ) (c:Cx) (h:Hp) (w:World) (a:Act) (N:Act->World->Prop) (Q:Exit->Act->World->Prop),Conc E c h w->Sub H h->(∀k,aj H k=none->aj H' k≠none->h k=none)->(∀x∈o.op.operands,∀d,bB σ x=some d->SR c h w (a.eval x) d)->
  (∀w' c',Conc E c' (bC h (aj H')) w'->eN c h w c' (bC h (aj H')) w'->Q (.panic (F9 D)) a w')->o.wp P a w N Q
theorem mkH_mem {X:Type}: ∀{l:List (Nat×SO)} {v:VH X l} {k:Nat} {o:aX},(k,o)∈(mkH l v).1->k∈l.map (·.1)/\ ∀hs ty wd,cU o=some (hs,ty,wd)->hs=[]
 |[],v,k,o,h=>by cases h
 |p::r,v,k,o,h=>by
  have h:=h;rcases at3.1 h with h |h
  · injection h with h1 h2;subst h1;subst h2;obtain⟨q,s⟩:=p;refine⟨at9,fun hs ty wd e=>?_⟩;cases s<;>first |(cases e;done) |(injection e with e;injection e with e;exact e.symm)
  · obtain⟨h1,h2⟩:=mkH_mem h;grind
def Cm (x:DC):Prop:=(∃b,x=.kb b)\/ ∃t d,x=.v t d/\kv t=true
def HZ:DS->Prop
 |.c x=>Cm x
 |.agg l=> ∀x∈l,Cm x
 |_=>False
section
variable {c c':Cx} {h h':Hp} {w w':World}
theorem TN {u:Value} {x:DC} (F:Cm x) (hu:CR c h w u x):CR c' h' w' u x:=by
 rcases F with⟨b,rfl⟩ |⟨t,d,rfl,D⟩
 · exact hu
 · refine⟨hu.1,?_⟩;have h2:=hu.2;have h1:=hu.1;cases t<;>first |exact h2 |(cases D;done) |(cases h1;done)
theorem acd {us:List Value} {l:List DC} (J: ∀x∈l,Cm x) (hu:ay (CR c h w) us l):ay (CR c' h' w') us l:=ay.of hu.len fun i u x h1 h2=>by obtain⟨M,D,F⟩:=hu.get h2;rw[h1] at D;cases D;exact TN (J _ (List.mem_of_getElem? h2)) F
theorem arH {u:Value} {x:DS} (D:HZ x) (hu:SR c h w u x):SR c' h' w' u x:=by
 cases x with
 |c x=>exact TN D hu
 |agg l=>obtain⟨vs,e,h1⟩:=hu;exact⟨vs,e,acd D h1⟩
 |_=>exact D.elim
theorem arG {u:Value} {x:DS} (D:HZ x) (hu:UR c h w u (xJ x)):UR c' h' w' u (xJ x):=by
 cases x with
 |c x=>exact TN D hu
 |agg l=>obtain⟨vs,e,h1⟩:=hu;exact⟨vs,e,acd D h1⟩
 |_=>exact D.elim
theorem arI {u:Value} {l:cG} (D: ∀p∈l,HZ p.2) (hu:SR c h w u (sr l)):SR c' h' w' u (sr l):=by
 have fk: ∀{q:cG},(∀p∈q,HZ p.2)->SR c h w u (.fk (q.map fun p=>xJ p.2))->SR c' h' w' u (.fk (q.map fun p=>xJ p.2)):=fun{q} O ⟨vs,e,h1⟩=>⟨vs,e,ay.of h1.len fun i v x h2 F=>by obtain⟨v',J,M⟩:=h1.get F;rw[h2] at J;cases J;rw[az5,Option.map_eq_some_iff] at F;obtain⟨p,N,rfl⟩:=F;exact arG (O p (List.mem_of_getElem? N)) M⟩
 match l,D,hu with
 |[],D,hu=>exact fk D hu
 |[p],D,hu=>exact arH (D p at9) hu
 |p::q::r,D,hu=>exact fk D hu
end
theorem Sq: ∀{t:Ty} {d:den t},kv t=true-> ∀x∈cA t d,Cm x
 |.pair a b,d,h,x,D=>by
  have h:(kv a&&kv b)=true:=h;rw[ae7] at h;have D:=D;rcases as3.1 D with D |D
  · exact Sq h.1 x D
  · exact Sq h.2 x D
 |.unit,_,_,x,D=>by cases D
 |.int k,_,_,x,D=>by rw[at5.1 D];exact .inr ⟨_,_,rfl,rfl⟩
 |.bool,_,_,x,D=>by rw[at5.1 D];exact .inr ⟨_,_,rfl,rfl⟩
 |.str,_,_,x,D=>by rw[at5.1 D];exact .inr ⟨_,_,rfl,rfl⟩
 |.gB k,_,_,x,D=>by rw[at5.1 D];exact .inr ⟨_,_,rfl,rfl⟩
 |.val,_,_,x,D=>by rw[at5.1 D];exact .inr ⟨_,_,rfl,rfl⟩
 |.sl _,_,h,_,_=>by cases h
 |.ptr _,_,h,_,_=>by cases h
 |.opt _,_,h,_,_=>by cases h
theorem acb {X:Type}: ∀{l:List Sh} {v:VL X l},l.all TM=true-> ∀x∈(mkL l v).1,Cm x
 |[],_,_,x,D=>by cases D
 |s::r,v,h,x,D=>by
  rw[av4,ae7] at h;have D:=D;rcases at3.1 D with D |D
  · subst D;have h1:=h.1;cases s<;>first |(exact Bool.noConfusion h1) |exact .inr ⟨_,_,rfl,h1⟩ |exact .inl ⟨_,rfl⟩
  · exact acb h.2 x D
theorem abr {X:Type}: ∀{l:List (Nat×SS)} {v:p4 X l},(l.all fun q=>aca q.2)=true-> ∀p∈(mkSl l v).1,HZ p.2
 |[],_,_,x,D=>by cases D
 |q::r,v,h,x,D=>by
  rw[av4,ae7] at h;have D:=D;rcases at3.1 D with D |D
  · subst D;have h1:=h.1;clear h D;obtain⟨k,s⟩:=q;cases s with
    |c s=>cases s<;>first |(exact Bool.noConfusion h1) |exact .inr ⟨_,_,rfl,h1⟩ |exact .inl ⟨_,rfl⟩
    |agg l=>exact acb h1
    |st t=>exact Sq h1
    |fn=>cases h1
  · exact abr h.2 x D
theorem abM {c c':Cx} {h h':Hp} {w:World} {q:List (Nat×SS)} {X:Type} {v:p4 X q} {l:List DS} (O:q.length=l.length) (hk:od 0 q=true) (hs: ∀t u,SR c h w u (bU (uG 0 l) t)->SR c' h' w u (bU (mkSl q v).1 t)) {vals:List Value} (M:ay (SR c h w) vals l):ay (SR c' h' w) vals ((mkSl q v).1.map (·.2)):=by
 have J:=mkSl_keys q v;have hlen:(mkSl q v).1.length=q.length:=by have:=congrArg List.length J;grind
 refine ay.of (by rw[M.len,ae4,hlen,O]) fun i u d h1 h2=>?_
 rw[az5,Option.map_eq_some_iff] at h2;obtain⟨p,h2,rfl⟩:=h2;have F:i<l.length:=by have:=(av7.1 h2).1;omega
 obtain⟨U,D,N⟩:=M.get (ae9 F);rw[h1] at D;cases D;rw[<-Sk hk J h2];exact hs _ _ (aaT (ae9 F)▸N)
theorem alK {rd:Bool} {ps:Ps} {aF:Shape} {l:List DS} {H:aG} {x:cv aF} (h:T2 rd ps aF l H=some x):aF.sl.length=l.length/\od 0 aF.sl=true/\(rd=false->proj (OC ps) (fun j=>(lk ps j).bind (aj H)) aF ⟨uG 0 l,H⟩=some x)/\
  (rd=true->(mkD aF x).hp=[]/\ ∃y:p4 Unit aF.sl,(mkSl aF.sl y).1=(mkD aF x).sl/\AJ (Nu H) (fun t l=>pF (lV (sB H 3) t l)) (uG 0 l) aF.sl ()=some y):=by
 unfold T2 at h;split at h<;>try (cases h;done)
 rename_i hk;rw[ae7] at hk;refine⟨at7 hk.1,hk.2,?_⟩;obtain⟨sl,hp⟩:=aF;cases rd with
 |false=>grind
 |true=>
  cases hp with
  |nil=>exact⟨fun e=>(by grind),fun _=>⟨rfl,x,rfl,h⟩⟩
  |cons=>grind
theorem RL {P:Program} {o:Oper} {a:Act} {w:World} {N:Act->World->Prop} {Q:Exit->Act->World->Prop} {f:FuncId} {vals:Array Value} (h:(execOp a.eval o).run P w=.ok (.enter f vals) w) (hc:Calls P f vals w fun e w'=>match e with|.returned v=>N (a.put o.dst v) w' |.panicked D=>Q (.panic D) a w' |.outgrown=>False):o.wp P a w N Q:=by unfold Oper.wp;rw[h];exact hc.mono fun e w' he=>by cases e<;>first |exact he |exact he.elim
section
variable {R:Type} {y:R} {P:Program} {H:aG} {σ:cG} {dst:Option Tmp} {ty0:TypeId} {pos:String} {af:Array Edge} {gd:Option (Nat×Bool)}
theorem SE {f:FuncId} {yo:Operand} {xs:List Operand} {a b:List DC} {l:List DS} {ats:Array TypeId} {ow rd:Bool} {ps:Ps} {K:DS->aG->Option R} {KP:Value->aG->Option R} (hy:Nq σ yo=some (f,a,b)) (hl:M8 σ a xs b=some l): ∀{G:List (dh P)},pk P f l ow rd ps H K KP G=some y->
  (∃v H',K v H'=some y/\St P ⟨dst,.call {callee:=.value yo,args:=xs.toArray,argTypes:=ats},ty0,pos,af,gd⟩ σ H v H')\/(∃pv H',KP pv H'=some y/\Ic P ⟨dst,.call {callee:=.value yo,args:=xs.toArray,argTypes:=ats},ty0,pos,af,gd⟩ σ H pv H')
 |[],h=>by cases h
 |g::r,h=>by
  unfold pk at h;split at h
  · exact SE hy hl h
  rename_i hb;rw[ae7] at hb;obtain rfl:=at7 hb.1;split at h
  · exact SE hy hl h
  rename_i x hx;obtain⟨h1,h⟩:=bL h;rw[ae7,ae7] at h1;obtain⟨⟨hG,h1⟩,bp⟩:=h1;have fm:=g.fm;unfold pB at fm;rw[ae7,ae7] at fm;obtain⟨⟨a1,b4⟩,b6⟩:=fm;obtain⟨hlen,aE,b2,b3⟩:=alK hx;split at h
  · rename_i av;obtain⟨b0,x1,b1,hx⟩:=b3 av;obtain⟨a8,h⟩:=bL h;obtain⟨o,ho,hc⟩:=g.ok _ _ _ _ h;rcases Lw ho with⟨sh,v,hm,he,J⟩ |⟨sh,pv,v,hm,he,J⟩
    · refine .inl ⟨_,_,J,fun E c h w A N Q hC hs ah Z hN=>?_⟩;obtain⟨vals,U,Y⟩:=aaP (g:=gd) (dst:=dst) (ty0:=ty0) (pos:=pos) (af:=af) hG hy hl Z;refine RL U ?_
      obtain⟨p1,_⟩:=Rn (ks:=g.aF.hp.map (·.1)) (Q:=CR c h w) (Q':=CR (cb c h) eU w) (c:=c) (h:=h) (w:=w) (c':=cb c h) (h':=eU) (w':=w) (pc:=Nu H) (fun X s d x v a7 hp=>by
       unfold Nu at hp;split at hp
       · split at hp<;>try (cases hp;done)
         rename_i az;split at hp<;>try (cases hp;done)
         rename_i q hq;cases hp;exact⟨fun u hu=>abH hC hs _ _ _ _ _ az hq hu,rfl⟩
       · exact ZN hs (ks:=g.aF.hp.map (·.1)) ⟨fun k k' e=>(by grind),fun b i v h1 h2=>⟨Or.inl h1,h2⟩⟩ a7 hp) (fun _ _ h=>h) (fun _ _ h=>h) (fun t q d us hj hu=>by obtain⟨l1,e,h3⟩:=FL (Q:=CR c h w) (Q':=CR (cb c h) eU w) (fun t x d v az hx hv=>abH hC hs _ t x d v az hx hv) t (Fl hj);rw[at0] at e;subst e;exact h3 us hu) (ZG a1).1 hx
      have ar:Conc (dW w (cb c h) eU) (cb c h) eU w:=by
       have nb: ∀k b,¬Bl (cb c h) eU k b:=fun k b ⟨⟨o,e⟩,_⟩=>by cases e
       refine⟨fun k o e=>(by cases e),fun k k' b e=>(nb _ _ e).elim,fun k b i e=>(nb _ _ e).elim,fun b i e=>?_,⟨fun b i e=>⟨fun⟨k,q⟩=>nb _ _ q,?_⟩,fun⟨k,q⟩=>nb _ _ q,hC.Oz⟩,fun _ _ q=>q,fun _ _ q=>.inl q,fun k b e=>(nb _ _ e).elim,Ext.refl _ _,fun k o e=>?_⟩
       · exact e.elim (hC.lt b i) fun⟨k,q⟩=>hC.blt q
       · exact e.elim (hC.lt b i) fun⟨k,q⟩=>hC.blt q
       · have e:(if 1000<=k/\k<5000 then none else none)=some o:=e
         split at e<;>cases e
      rw[b0] at hc;refine(hc (cb c h) w vals ar (by rw[<-b1];exact abM hlen aE p1 Y)).mono fun e w' F=>?_
      obtain⟨c1,F⟩:=F;rw[he] at F;obtain⟨v1,rfl,g1,g2⟩:=F;have bb:iB w w':=g1.ext.mono fun b ⟨k,⟨o,e⟩,_⟩=>by cases e
      obtain⟨q1,q2⟩:=hC.same bb;rw[bC.self hs] at hN;refine hN v1 w' c q1 q2 (arI (abr ?_) g2);exact au9.1 a8 _ hm
    · cases J
  · rename_i av;have hx:=b2 av;obtain⟨o,ho,hc⟩:=g.ok _ _ _ _ h
    have key: ∀{E:cQ} {c:Cx} {h:Hp} {w:World} {a':Act},Conc E c h w->Sub H h->(∀x∈(Op.call {callee:=.value yo,args:=xs.toArray,argTypes:=ats}).operands,∀d,bB σ x=some d->SR c h w (a'.eval x) d)->
      ∃vals:List Value,(execOp a'.eval ⟨dst,.call {callee:=.value yo,args:=xs.toArray,argTypes:=ats},ty0,pos,af,gd⟩).run P w=.ok (.enter g.f vals.toArray) w/\
       (Calls P g.f vals.toArray w fun e w'=> ∃c',ve (dW w (c0 ps c) (aj (mkD g.aF x).hp)) e c' w' (mQ g.outs o))/\
       ∀{H1 A:aG} {c1:Cx} {w':World},uB ps H H1 ps=some A->(∀k,aj H k=none->aj A k≠none->h k=none)->Conc (dW w (c0 ps c) (aj (mkD g.aF x).hp)) c1 (aj H1) w'->(∀k o,(k,o)∈H1-> ∀hs ty wd,cU o=some (hs,ty,wd)->hs=[])->
        ∃c',Conc E c' (bC h (aj A)) w'/\eN c h w c' (bC h (aj A)) w'/\ ∀u x,CR c1 (aj H1) w' u x->CR c' (bC h (aj A)) w' u (rA ps H x):=by
     intro E c h w a' hC hs Z;obtain⟨vals,U,Y⟩:=aaP (g:=gd) (dst:=dst) (ty0:=ty0) (pos:=pos) (af:=af) hG hy hl Z;obtain⟨p1,p2,p3⟩:=abd hs a1 hx (fun k o e=>by obtain⟨k',D,M⟩:=aw5.1 e;exact⟨k',hs _ _ M,fun q _ hq=>by rw[ab4] at hq;rw[hq] at D;injection D⟩) (c:=c) (c':=c0 ps c) (w:=w) (fun k k' _ e=>by unfold c0;simp[ab4.1 e]) fun _ _ _ h1 h2=>⟨h1,h2⟩
     have ob: ∀j o',aj (mkD g.aF x).hp j=some o'-> ∃k o,lk ps j=some k/\aj H k=some o/\nG o o'/\ ∀us,ay (CR c h w) us (dM o)->ay (CR (c0 ps c) (aj (mkD g.aF x).hp) w) us (dM o'):=fun j o' e=>by obtain⟨o,D,M,O⟩:=p1 j o' e;obtain⟨k,e6,e7⟩:=aw5.1 D;exact⟨k,o,e6,e7,M,O⟩
     have ar:=hC.enter (h0:=aj (mkD g.aF x).hp) h1 fun j o' e=>by obtain⟨k,o,D,M,O,e6⟩:=ob j o' e;exact⟨k,o,D,hs _ _ M,O.obj (by unfold c0;simp[D]) e6 (hC.obj k o (hs _ _ M))⟩
     refine⟨vals,U,hc (c0 ps c) w vals ar (abM hlen aE p3 Y),fun{H1 A c1 w'} hb hn a6 bx=>?_⟩;have an:=h1;unfold Bi at an;rw[ae7] at an;refine hC.back h1 (fun j o' e=>by obtain⟨k,o,D,M,O,_⟩:=ob j o' e;exact⟨k,o,D,hs _ _ M,O⟩) hs (fun j k hj o e=>?_) (fun j k hj e=>?_) hb a6 (fun j o1 e=>bx j o1 (Ah e)) fun j o' e=>?_
     · have:=au9.1 bp _ (r7 hj);rw[aw1] at this;rcases this with q |q
       · unfold kt at q;rw[show aj H (j,k).2=some o from e] at q;cases q
       · obtain⟨o',D⟩:=ax3.1 (p2 j q);obtain⟨k',o2,M,O,e6,_⟩:=ob j o' D;rw[hj] at M;cases M;rw[e] at O;cases O;exact⟨o',D,e6⟩
     · obtain⟨q1,_⟩:=SG an.2 hb;obtain⟨o1,b5,_,_,D⟩:=q1 j k (r7 hj);exact hn k e (by grind)
     · obtain⟨q,_⟩:=mkH_mem (Ah e);obtain⟨p,q1,q2⟩:=au0.1 q;have:=au9.1 b4 p q1;rw[q2] at this;simpa using this
    rcases Lw ho with⟨sh,v,hm,he,J⟩ |⟨sh,pv,v,hm,he,J⟩
    · unfold wX at J;split at J<;>try (cases J;done)
      rename_i A hA;refine .inl ⟨_,_,J,fun E c h w a' N Q hC hs ah Z hN=>?_⟩;obtain⟨vals,U,Y,D⟩:=key hC hs Z;refine RL U (Y.mono fun e w' F=>?_);obtain⟨c1,F⟩:=F;rw[he] at F;obtain⟨v1,rfl,g1,g2⟩:=F;obtain⟨c',g3,g4,g5⟩:=D hA ah g1 fun k o hm=>(mkH_mem hm).2;exact hN v1 w' c' g3 g4 (abg g5 g2)
    · unfold wX at J;split at J<;>try (cases J;done)
      rename_i A hA;refine .inr ⟨_,_,J,fun E c h w a' N Q hC hs ah Z hN=>?_⟩;obtain⟨vals,U,Y,D⟩:=key hC hs Z;refine RL U (Y.mono fun e w' F=>?_);obtain⟨c1,F⟩:=F;rw[he] at F;obtain⟨rfl,g1⟩:=F;obtain⟨c',g3,g4,g5⟩:=D hA ah g1 fun k o hm=>(mkH_mem hm).2;exact hN w' c' g3 g4
end
inductive KS where
 |i (l:List Nat)
 |o (l:List Nat)
def KS.has:KS->Nat->Bool
 |.i l,k=>eC l k
 |.o l,k=> !eC l k
def KS.jX:KS->KS->Bool
 |.i l,s=>l.all fun k=> !s.has k
 |.o l,.i q=>q.all fun k=>eC l k
 |.o _,.o _=>false
theorem KS.arM {s t:KS} (h:s.jX t=true) {k:Nat} (h1:s.has k=true) (h2:t.has k=true):False:=by
 unfold KS.jX at h;split at h
 · have:=au9.1 h k (tS.1 h1);grind
 · have:=au9.1 h k (tS.1 h2);have h1:(!eC _ k)=true:=h1;grind
 · grind
structure Ky where
 wr:Bool
 dK:Bool
 S:KS
def Ky.p:Ky:=⟨false,false,.i []⟩
def Ky.q (R:List Nat):Ky:=⟨false,false,.i R⟩
def Ky.u (W:List Nat) (b:Bool):Ky:=⟨true,b,.i W⟩
def Ky.n (d:Nat):Ky:=⟨true,false,.i [d]⟩
def Ky.w:Ky:=⟨true,false,.o []⟩
def HW (κ ι:Ky):Bool:=(!κ.wr&& !ι.wr)||κ.S.jX ι.S
abbrev SF:=Nat->DS
def iQ:DS->DS
 |.c (.kb b)=>.c (.v .bool b)
 |x=>x
theorem SR.iQ {c:Cx} {h:Hp} {w:World} {u:Value} {x:DS}:SR c h w u (iQ x)<->SR c h w u x:=by
 unfold Fx.iQ;split
 · exact⟨fun h=>(show Value.bool _=u from h.2).symm,fun h=>⟨rfl,(show u=_ from h).symm⟩⟩
 · rfl
theorem Zc {c:Cx} {h:Hp} {w:World} {v:Value} {x:DS} (D:TT v=some x):SR c h w v x:=by
 unfold TT at D;split at D<;>split at D<;>try (cases D;done)
 · rename_i cs _ l F;cases D;exact⟨cs.toList,rfl,AG F⟩
 · rename_i F;cases D;exact acu F
def gS (κ:Ky) (o:Oper) (σ:SF) (h:Hp) (σ0:cG) (H H':aG):Prop:=
 (∀t,.tmp t∈o.op.operands->iQ (bU σ0 t)=σ t)/\Sub H h/\(∀k,aj H k=none->aj H' k≠none->h k=none)/\(∀k,κ.S.has k=false->aj H k=none/\aj H' k=none)/\(κ.wr=false-> ∀k,aj H' k=aj H k)
def qM (ops:Array Oper) (σ:SF) (o:Oper):Option Bool:=
 match o.guard with
 |none=>some true
 |some (j,want)=>match(ops[j]?).bind (·.dst) with
  |none=>some false
  |some d=>match σ d with
   |.c (.v .bool b)=>some (b==want)
   |.fk []=>some false
   |_=>none
def TL {α:Type} (n:Nat) (k:Nat->α):α:=match n with|0=>k 0 |m+1=>k (m+1)
theorem Y4 {α:Type} (n:Nat) (k:Nat->α):TL n k=k n:=by cases n<;>rfl
def dQ (M i:Nat):Nat:=(M>>>(256*i))%2 ^256
def T4 (M:Nat) (s:Nat) (e:Edge):Nat:=if Region.binds .any e then s|||2 ^e.on|||dQ M e.on else s
def ph:List Oper->Nat->Nat->Nat
 |[],_,M=>M
 |o::t,i,M=>TL (M|||((o.after.toList.foldl (T4 M) 0 %2 ^256)<<<(256*i))) fun D=>ph t (i+1) D
def pH (M i x:Nat):Bool:=decide (x<256)&&M.testBit (256*i+x)
section
variable {P:Program} {ops:Array Oper} {ms:Nat} {κ ι:Ky} {o ox oi:Oper} {σ σ':SF} {h h':Hp} {σ0:cG} {H H':aG}
theorem gS.move (hf:gS κ o σ h σ0 H H') (h1: ∀t,.tmp t∈o.op.operands->σ' t=σ t) (h2: ∀k,κ.S.has k=true->h' k=h k):gS κ o σ' h' σ0 H H':=by
 obtain⟨g1,g2,g3,g4,g5⟩:=hf
 have hk: ∀k,(aj H k≠none\/aj H' k≠none)->h' k=h k:=fun k e=>h2 k (by
  cases q:κ.S.has k with
  |true=>rfl
  |false=>obtain⟨J,M⟩:=g4 k q;rcases e with e |e;exact(e J).elim;exact(e M).elim)
 exact⟨fun t F=>(g1 t F).trans (h1 t F).symm,fun k o e=>(hk k (.inl (by grind))).trans (g2 k o e),fun k e D=>(hk k (.inr D)).trans (g3 k e D),g4,g5⟩
theorem gS.still (hf:gS κ o σ h σ0 H H') (hu:κ.wr=false):bC h (aj H')=h:=by
 funext k;unfold bC;rw[hf.2.2.2.2 hu k];cases e:aj H k with
 |none=>rfl
 |some o=>rw[hf.2.1 k o e];rfl
theorem abj (hk:HW κ ι=true):(κ.wr=false/\ι.wr=false)\/ ∀k,κ.S.has k=true->ι.S.has k=true->False:=by unfold HW at hk;rw[aw1,ae7,Bool.not_eq_true',Bool.not_eq_true'] at hk;exact hk.imp id fun h k=>KS.arM h
theorem aai (hk:(κ.wr=false/\ι.wr=false)\/ ∀k,κ.S.has k=true->ι.S.has k=true->False):(ι.wr=false/\κ.wr=false)\/ ∀k,ι.S.has k=true->κ.S.has k=true->False:=by grind
theorem gS.Nx (hf:gS κ o σ h σ0 H H') (hk:(κ.wr=false/\ι.wr=false)\/ ∀k,κ.S.has k=true->ι.S.has k=true->False): ∀k,ι.S.has k=true->bC h (aj H') k=h k:=fun k D=>by
 rcases hk with hk |hk
 · rw[hf.still hk.1]
 · cases q:κ.S.has k with
   |true=>grind
   |false=>unfold bC;rw[(hf.2.2.2.1 k q).2];rfl
def Stl (κ:Ky) (h:Hp) (H':aG):Prop:=κ.wr=false\/ ∀k,aj H' k≠none->k<1000/\h k=none
def Uu (ms i:Nat) (x:Option Nat) (b:Bool):Prop:=match x with|some p=>pH ms i p=b |none=>b=false
def S1 (P:Program) (ops:Array Oper) (ms:Nat) (x:Option Nat) (X:Nat×Ky) (σ:SF) (h:Hp) (σ':SF) (h':Hp):Prop:=
 (Uu ms X.1 x true/\σ'=σ/\h'=h)\/(Uu ms X.1 x false/\ ∃o,ops[X.1]? =some o/\((qM ops σ o=some true/\ ∃σ0 H v H',gS X.2 o σ h σ0 H H'/\St P o σ0 H v H'/\(x≠none->Stl X.2 h H')/\σ'=im σ o.dst (iQ v)/\h'=bC h (aj H'))\/(qM ops σ o=some false/\σ'=im σ o.dst (.fk [])/\h'=h)))
def Pn (P:Program) (ops:Array Oper) (X:Nat×Ky) (σ:SF) (h:Hp) (D:Value) (h':Hp):Prop:=
 X.2.dK=true/\ ∃o,ops[X.1]? =some o/\qM ops σ o=some true/\ ∃σ0 H H',gS X.2 o σ h σ0 H H'/\Ic P o σ0 H D H'/\h'=bC h (aj H')
def jb (P:Program) (ops:Array Oper) (ms:Nat):Option Nat->List (Nat×Ky)->SF->Hp->(SF->Hp->Prop)->(Value->Hp->Prop)->Prop
 |_,[],σ,h,K,_=>K σ h
 |x,X::r,σ,h,K,KP=>(∃σ' h',S1 P ops ms x X σ h σ' h'/\jb P ops ms x r σ' h' K KP)\/(x=none/\ ∃D h',Pn P ops X σ h D h'/\KP D h'/\jb P ops ms (some X.1) r σ h (fun _ _=>True) fun _ _=>False)
def Nb (KP:Value->Hp->Prop):Prop:= ∀v h h',KP v h->(∀k o,h k=some o->h' k=some o)->(∀k,h k=none->h' k≠none->k<1000)->KP v h'
theorem wo {d:Option Nat} {v:DS} {t:Nat} (h:d≠some t):im σ d v t=σ t:=by
 cases d with
 |none=>rfl
 |some d=>exact iG fun e=>h (by rw[e])
theorem Le {d e:Option Nat} {v u:DS} (h: ∀t,d=some t->e≠some t):im (im σ d v) e u=im (im σ e u) d v:=by
 funext t;by_cases h1:e=some t
 · subst h1;rw[wo (d:=d) fun q=>h t q rfl];show bY _ t u t=bY _ t u t;rw[gl,gl]
 · rw[wo h1];cases d with
   |none=>rw[show im (im σ e u) none v=im σ e u from rfl,wo h1];rfl
   |some d=>
    show bY σ d v t=bY _ d v t;by_cases h2:t=d
    · grind[gl]
    · rw[iG h2,iG h2,wo h1]
theorem wB {d:Option Tmp} {v:DS} (h: ∀x,d=some x->x∉o.looksAt ops): ∀t,.tmp t∈o.op.operands->im σ d v t=σ t:=fun t D=>wo fun e=>h t e (List.mem_append_left _ (List.mem_filterMap.2 ⟨.tmp t,Array.mem_toList_iff.2 D,rfl⟩))
theorem tK {d:Option Tmp} {v:DS} (h: ∀x,d=some x->x∉o.looksAt ops):qM ops (im σ d v) o=qM ops σ o:=by
 unfold qM;split
 · rfl
 · rename_i j want J;cases F:(ops[j]?).bind (·.dst) with
   |none=>rfl
   |some e=>simp[wo (σ:=σ) (d:=d) (v:=v) (t:=e) fun D=>h e D (List.mem_append_right _ (by grind))]
theorem aoR {H1 D:aG} (F: ∀k,aj H1 k≠none->aj D k≠none->aj H1 k=aj D k):bC (bC h (aj H1)) (aj D)=bC (bC h (aj D)) (aj H1):=by
 funext k;have:=F k;unfold bC;cases J:aj H1 k<;>cases M:aj D k<;>try rfl
 grind
theorem gS.OB {τ:SF} {τ0:cG} {G D:aG} (hf:gS κ ox σ h σ0 H H') (M:gS ι oi τ h τ0 G D) (hk:(κ.wr=false/\ι.wr=false)\/ ∀k,κ.S.has k=true->ι.S.has k=true->False):bC (bC h (aj H')) (aj D)=bC (bC h (aj D)) (aj H'):=aoR fun k F J=>by
 rcases hk with⟨U,Y⟩ |hk
 · rw[hf.2.2.2.2 U k] at F⊢;rw[M.2.2.2.2 Y k] at J⊢;obtain⟨Z,N⟩:=Option.ne_none_iff_exists'.1 F;obtain⟨o2,O⟩:=Option.ne_none_iff_exists'.1 J;rw[N,O,<-hf.2.1 k Z N,<-M.2.1 k o2 O]
 · have a1:κ.S.has k=true:=by
      cases q:κ.S.has k with
      |true=>rfl
      |false=>exact(F (hf.2.2.2.1 k q).2).elim
   have a2:ι.S.has k=true:=by
    cases q:ι.S.has k with
    |true=>rfl
    |false=>exact(J (M.2.2.2.1 k q).2).elim
   grind
variable {x:Option Nat} {X I:Nat×Ky} {σ1 σ2:SF} {h1 h2:Hp}
theorem S1.swap (Y:ops[X.1]? =some ox) (U:ops[I.1]? =some oi) (ha:ox.apart ops oi=true) (hk:HW X.2 I.2=true) (g1:S1 P ops ms x X σ h σ1 h1) (g2:S1 P ops ms x I σ1 h1 σ2 h2): ∃σm hm,S1 P ops ms x I σ h σm hm/\S1 P ops ms x X σm hm σ2 h2:=by
 obtain⟨a1,a2,a3⟩:=Oper.apart_spec ha;have J:=abj hk;have ah:=aai J;rcases g1 with⟨D,rfl,rfl⟩ |⟨D,o1,e1,g1⟩
 · rcases g2 with⟨F,rfl,rfl⟩ |g2
   · exact⟨_,_,.inl ⟨F,rfl,rfl⟩,.inl ⟨D,rfl,rfl⟩⟩
   · exact⟨_,_,.inr g2,.inl ⟨D,rfl,rfl⟩⟩
 · rcases g2 with⟨F,rfl,rfl⟩ |⟨F,o2,O,g2⟩
   · exact⟨_,_,.inl ⟨F,rfl,rfl⟩,.inr ⟨D,o1,e1,g1⟩⟩
   rw[Y] at e1;cases e1;rw[U] at O;cases O;rcases g1 with⟨Z,τ,H,v,H',f1,s1,t1,rfl,rfl⟩ |⟨Z,rfl,rfl⟩<;>rcases g2 with⟨N,τ2,G,u,G',f2,s2,t2,rfl,rfl⟩ |⟨N,rfl,rfl⟩<;>rw[tK a1] at N
   · have f3:=f2.move (fun t M=>(wB a1 t M).symm) fun k q=>(f1.Nx J k q).symm;have f4:gS X.2 ox (im σ oi.dst (iQ u)) (bC h (aj G')) τ H H':=f1.move (fun t M=>wB a3 t M) (f3.Nx ah);refine⟨_,_,.inr ⟨F,oi,U,.inl ⟨N,τ2,G,u,G',f3,s2,fun q=>?_,rfl,rfl⟩⟩,.inr ⟨D,ox,Y,.inl ⟨by rw[tK a3];exact Z,τ,H,v,H',f4,s1,fun q=>?_,Le a2,f1.OB f3 J⟩⟩⟩
     · rcases t2 q with t |t
       · exact .inl t
       · refine .inr fun k e=>⟨(t k e).1,?_⟩;have:=(t k e).2;unfold bC at this;cases O:aj H' k with
         |none=>rw[O] at this;exact this
         |some o=>rw[O] at this;cases this
     · rcases J with J |J
       · exact .inl J.1
       rcases t1 q with t |t
       · exact .inl t
       · refine .inr fun k e=>⟨(t k e).1,?_⟩
         rw[f3.Nx (ι:=X.2) (.inr fun k a b=>J k b a) k (by
          cases q:X.2.S.has k with
          |true=>rfl
          |false=>exact(e (f1.2.2.2.1 k q).2).elim)]
         exact(t k e).2
   · exact⟨_,_,.inr ⟨F,oi,U,.inr ⟨N,rfl,rfl⟩⟩,.inr ⟨D,ox,Y,.inl ⟨by rw[tK a3];exact Z,τ,H,v,H',f1.move (fun t M=>wB a3 t M) fun _ _=>rfl,s1,t1,Le a2,rfl⟩⟩⟩
   · exact⟨_,_,.inr ⟨F,oi,U,.inl ⟨N,τ2,G,u,G',f2.move (fun t M=>(wB a1 t M).symm) fun _ _=>rfl,s2,t2,rfl,rfl⟩⟩,.inr ⟨D,ox,Y,.inr ⟨by rw[tK a3];exact Z,Le a2,rfl⟩⟩⟩
   · exact⟨_,_,.inr ⟨F,oi,U,.inr ⟨N,rfl,rfl⟩⟩,.inr ⟨D,ox,Y,.inr ⟨by rw[tK a3];exact Z,Le a2,rfl⟩⟩⟩
theorem jb.swap {K:SF->Hp->Prop} {KP:Value->Hp->Prop} {R:List (Nat×Ky)} (ar:Nb KP) (O:ops[X.1]? =some ox) (N:ops[I.1]? =some oi) (ha:ox.apart ops oi=true) (hk:HW X.2 I.2=true) (hp:I.2.dK=true->X.2.wr=false) (av:pH ms X.1 I.1=false) (az:pH ms I.1 X.1=false)
  (F:jb P ops ms x (X::I::R) σ h K KP):jb P ops ms x (I::X::R) σ h K KP:=by
 obtain⟨a1,a2,a3⟩:=Oper.apart_spec ha;have ah:=abj hk;have aE:=aai ah;rcases F with⟨σ1,h1,g1,⟨σ2,h2,g2,F⟩ |⟨rfl,pv,h2,⟨p1,o2,e2,Y,τ2,G,D,f2,s2,rfl⟩,an,F⟩⟩ |⟨rfl,pv,h1,⟨p1,o1,e1,U,Z,H,H',f1,s1,rfl⟩,an,F⟩
 · obtain⟨σm,hm,q1,q2⟩:=g1.swap O N ha hk g2;exact .inl ⟨σm,hm,q1,.inl ⟨σ2,h2,q2,F⟩⟩
 · rw[N] at e2;cases e2;have hu:=hp p1;rcases g1 with⟨b1,_⟩ |⟨b1,o1,e1,g1⟩
   · cases b1
   rw[O] at e1;cases e1
   have key:h1=h/\ ∃v,σ1=im σ ox.dst v:=by
    rcases g1 with⟨U,Z,H,v,H',f1,s1,t1,rfl,rfl⟩ |⟨U,rfl,rfl⟩
    · exact⟨f1.still hu,_,rfl⟩
    · exact⟨rfl,_,rfl⟩
   obtain⟨rfl,v,rfl⟩:=key;rw[tK a1] at Y;refine .inr ⟨rfl,pv,_,⟨p1,oi,N,Y,τ2,G,D,f2.move (fun t ht=>(wB a1 t ht).symm) fun _ _=>rfl,s2,rfl⟩,an,.inl ⟨_,_,.inr ⟨av,ox,O,?_⟩,F⟩⟩;rcases g1 with⟨U,Z,H,v',H',f1,s1,t1,q⟩ |g1
   · exact .inl ⟨U,Z,H,v',H',f1,s1,fun _=>.inl hu,q⟩
   · exact .inr g1
 · rw[O] at e1;cases e1;rcases F with⟨σ1,h1,g1,F⟩ |⟨e,_⟩
   · rcases g1 with⟨b1,_⟩ |⟨b1,o2,e2,g2⟩
     · rw[show pH ms I.1 X.1=true from b1] at az;grind
     rw[N] at e2;cases e2;rcases g2 with⟨Y,τ2,G,u,D,f2,s2,t2,rfl,rfl⟩ |⟨Y,rfl,rfl⟩
     · have f4:gS X.2 ox (im σ oi.dst (iQ u)) (bC h (aj D)) Z H H':=f1.move (fun t ht=>wB a3 t ht) (f2.Nx aE);refine .inl ⟨_,_,.inr ⟨rfl,oi,N,.inl ⟨Y,τ2,G,u,D,f2,s2,fun q=>(q rfl).elim,rfl,rfl⟩⟩,.inr ⟨rfl,pv,_,⟨p1,ox,O,by rw[tK a3];exact U,Z,H,H',f4,s1,rfl⟩,?_,F⟩⟩
       rw[<-f1.OB f2 ah];refine ar _ _ _ an (fun k o e=>?_) fun k e e'=>?_
       · show(aj D k).or (bC h (aj H') k)=some o;cases M:aj D k with
         |none=>grind
         |some og=>
          rcases t2 (fun q=>nomatch q) with t |t
          · have J:bC h (aj D) k=h k:=by rw[f2.still t]
            unfold bC at J;rw[M] at J;have a6:aj H' k=none\/aj H' k≠none:=by cases aj H' k<;>simp
            rcases a6 with q |q
            · unfold bC at e;rw[q] at e;exact J.trans e
            · have:=f1.OB f2 ah;have:=congrFun this k;unfold bC at this e;obtain⟨oh,q⟩:=Option.ne_none_iff_exists'.1 q;rw[M,q] at this;rw[q] at e;exact this.trans e
          · have h3:=(t k (by grind)).2
            unfold bC at e;cases eh:aj H' k with
            |none=>rw[eh,h3] at e;cases e
            |some oh=>have:=congrFun (f1.OB f2 ah) k;unfold bC at this;rw[M,eh] at this;rw[eh] at e;exact this.trans e
       · have e':(aj D k).or (bC h (aj H') k)≠none:=e';rw[e] at e';have M:aj D k≠none:=fun q=>by rw[q] at e';exact e' rfl
         rcases t2 (fun q=>nomatch q) with t |t
         · have J:bC h (aj D) k=h k:=by rw[f2.still t]
           unfold bC at J e;rw[Option.or_eq_none_iff] at e;rw[e.2,Option.or_eq_none_iff] at J;exact(M J.1).elim
         · exact(t k M).1
     · exact .inl ⟨_,_,.inr ⟨rfl,oi,N,.inr ⟨Y,rfl,rfl⟩⟩,.inr ⟨rfl,pv,_,⟨p1,ox,O,by rw[tK a3];exact U,Z,H,H',f1.move (fun t ht=>wB a3 t ht) fun _ _=>rfl,s1,rfl⟩,an,F⟩⟩
   · cases e
end
def r5 (ops:Array Oper) (ms:Nat) (x i:Nat×Ky):Bool:=
 match ops[x.1]?,ops[i.1]? with
 |some ox,some oi=>x.1 !=i.1&& !(ox.after.any fun e=>Region.binds .any e&&e.on==i.1)&&((ox.apart ops oi&&HW x.2 i.2&&(!i.2.dK|| !x.2.wr)&& !pH ms x.1 i.1)||pH ms i.1 x.1)
 |_,_=>false
def rX (ops:Array Oper) (ms:Nat):List (Nat×Ky)->Bool
 |[]=>true
 |x::t=>t.all (r5 ops ms x)&&rX ops ms t
def MC (ops:Array Oper) (x:Nat×Ky):Bool:=
 match ops[x.1]? with
 |some o=>o.after.all (fun e=> !Region.binds .any e||(e.on !=x.1&&e.on<ops.size))
 |none=>false
def calm (ops:Array Oper) (M:Nat) (order:List (Nat×Ky)):Bool:=
 rX ops M order&&(List.range ops.size).all (fun i=>order.any (·.1==i))&&order.all (MC ops)
def F8 (n:Nat) (ops:Array Oper):Bool:=ops.toList.all fun o=>match o.dst with|some d=>decide (d<n) |none=>true
section
variable {P:Program} {ops:Array Oper} {ms:Nat} {Q:Exit->Act->World->Prop}
theorem jb.front {I:Nat×Ky}: ∀(M D:List (Nat×Ky)) (x:Option Nat) (σ:SF) (h:Hp) (K:SF->Hp->Prop) (KP:Value->Hp->Prop),Nb KP->(∀y∈M,r5 ops ms y I=true)->(∀y∈M,pH ms I.1 y.1=false)->jb P ops ms x (M++I::D) σ h K KP->jb P ops ms x (I::(M++D)) σ h K KP
 |[],D,x,σ,h,K,KP,_,_,_,F=>F
 |X::t,D,x,σ,h,K,KP,O,hp,hm,F=>by
  have Z:=fun y N=>hp y (av1 _ N);have U:=fun y N=>hm y (av1 _ N)
  have h2:jb P ops ms x (X::I::(t++D)) σ h K KP:=by
   rcases F with⟨σ1,h1,g1,F⟩ |⟨e,pv,h1,g1,g2,F⟩
   · exact .inl ⟨σ1,h1,g1,jb.front t D _ _ _ _ _ O Z U F⟩
   · exact .inr ⟨e,pv,h1,g1,g2,jb.front t D _ _ _ _ _ (fun _ _ _ q=>q.elim) Z U F⟩
  have J:=hp X at9;have Y:=hm X at9;unfold r5 at J;split at J
  · rename_i ox oi e1 e2;rw[Y] at J;simp[Bool.not_eq_true'] at J;obtain⟨_,⟨⟨q1,q2⟩,q3⟩,q4⟩:=J;exact h2.swap O e1 e2 q1 q2 (fun e=>by rw[e] at q3;grind) q4 Y
  · grind
def acr (ops:Array Oper) (L:Nat->Prop):Prop:= ∀j,L j-> ∀o,ops[j]? =some o-> ∀e∈o.after,Region.binds .any e=true->L e.on
theorem aoA (M i k:Nat) (h:k<256):(dQ M i).testBit k=M.testBit (256*i+k):=by unfold dQ;rw[Nat.testBit_mod_two_pow,Nat.testBit_shiftRight,decide_eq_true h,Bool.true_and]
theorem anS (L:Nat->Prop) (M:Nat) (N: ∀x,L x-> ∀k,k<256->M.testBit (256*x+k)=true->L k): ∀(l:List Edge) (s:Nat),(∀e∈l,Region.binds .any e=true->L e.on)->(∀k,k<256->s.testBit k=true->L k)->
  ∀k,k<256->(l.foldl (T4 M) s).testBit k=true->L k:=by
 intro l
 induction l with
 |nil=>grind
 |cons e t J=>
  intro s he hs k h1 hk;rw[List.foldl_cons] at hk;refine J _ (fun F h' D=>he F (av1 _ h') D) ?_ k h1 hk;intro k h1 hk;unfold T4 at hk;split at hk
  · rename_i D;have O:=he e at9 D;rw[Nat.testBit_or,Nat.testBit_or,aw1,aw1] at hk;rcases hk with(hk |hk) |hk
    · grind
    · grind
    · rw[aoA _ _ _ h1] at hk;grind
  · exact hs k h1 hk
theorem alX {L:Nat->Prop} (O:acr ops L): ∀(l:List Oper) (i M:Nat),(∀j,l[j]? =ops[i+j]?)->
  (∀j,(∀o,ops[j]? =some o-> ∀e∈o.after,Region.binds .any e=true->L e.on)-> ∀k,k<256->M.testBit (256*j+k)=true->L k)->
  ∀j,(∀o,ops[j]? =some o-> ∀e∈o.after,Region.binds .any e=true->L e.on)-> ∀k,k<256->(ph l i M).testBit (256*j+k)=true->L k:=by
 intro l
 induction l with
 |nil=>intro i M _ h;exact h
 |cons o t ih=>
  intro i M J U;unfold ph;rw[Y4];have h0:ops[i]? =some o:=by have:=J 0;grind
  refine ih _ _ (fun j=>?_) (fun j Y k h1 hk=>?_)
  · have:=J (j+1);grind
  · rw[Nat.testBit_or,aw1] at hk;rcases hk with hk |hk
    · grind
    · rw[Nat.testBit_shiftLeft,ae7,Nat.testBit_mod_two_pow,ae7] at hk;obtain⟨h2,N,F⟩:=hk;have ah:=of_decide_eq_true h2;have an:=of_decide_eq_true N;have e:j=i:=by omega
      subst e;rw[show 256*j+k - 256*j=k by omega] at F
      exact anS L M (fun x hx k h1 hk=>U x (fun o Z e he D=>O x hx o Z e he D) k h1 hk) _ 0 (fun e he D=>Y o h0 e (Array.mem_toList_iff.1 he) D) (fun k _ hk=>by simp at hk) k h1 F
theorem aoL {a:Act} {d:Option Tmp} {v:Value} {n:Nat} (F:a.tmps.size=n) (D: ∀x,d=some x->x<n) (t:Nat):(a.put d v).tmps.getD t undef=if d=some t then v else a.tmps.getD t undef:=by
 cases d with
 |none=>rfl
 |some d=>
  simp[Act.put];have:=D d rfl;by_cases h:d=t
  · grind
  · grind
theorem Mh {c:Cx} {h:Hp} {w:World} {a:Act} {σ:SF} {d:Option Tmp} {val:Value} {v:DS} {n:Nat} (F:a.tmps.size=n) (D: ∀x,d=some x->x<n) (hs: ∀t,SR c h w (a.tmps.getD t undef) (σ t)) (J:SR c h w val v): ∀t,SR c h w ((a.put d val).tmps.getD t undef) (im σ d v t):=by
 intro t;rw[aoL F D];by_cases e:d=some t
 · subst e;rw[if_pos rfl];show SR c h w val (bY σ t v t);rw[gl];omega
 · rw[wo e];grind
theorem LU (a:Act) (d:Option Tmp) (v:Value):(a.put d v).tmps.size=a.tmps.size:=by cases d<;>simp [Act.put]
theorem put_defers (a:Act) (d:Option Tmp) (v:Value):(a.put d v).defers=a.defers:=by cases d<;>rfl
theorem LF {n:Nat} (h:F8 n ops=true) {i:Nat} {o:Oper} (D:ops[i]? =some o): ∀x,o.dst=some x->x<n:=by
 intro x F;have:=au9.1 h o (by grind)
 grind
theorem RM {c:Cx} {h:Hp} {w:World} {a:Act} {σ:SF} {o:Oper} {b:Bool} (hs: ∀t,SR c h w (a.tmps.getD t undef) (σ t)) (hw:qM ops σ o=some b):Region.wanted o (yielded ops a.tmps)=b:=by
 unfold qM at hw;unfold Region.wanted;split at hw
 · grind
 · rename_i j want N;rw[N];simp only;unfold yielded;split at hw
   · grind
   · rename_i d M;rw[M];simp[Option.bind_some];have D:=hs d;rw[Array.getD_eq_getD_getElem?] at D;split at hw
     · rename_i O J;rw[J] at D;injection hw with hw;have e:=D.2;cases F:a.tmps[d]? with
       |none=>rw[F] at e;cases e
       |some u=>rw[F] at e;have e:=e;subst e;simp_all
     · rename_i J;rw[J] at D;injection hw with hw;obtain⟨vs,e,h2⟩:=D;cases h2;cases F:a.tmps[d]? with
       |none=>grind
       |some u=>rw[F] at e;have e:=e;subst e;simp only;rw[<-hw];rfl
     · cases hw
theorem aat {κ:Ky} {o:Oper} {σ:SF} {h:Hp} {σ0:cG} {H H':aG} (hf:gS κ o σ h σ0 H H') {c:Cx} {w:World} {a:Act} (hs: ∀t,SR c h w (a.tmps.getD t undef) (σ t)): ∀x∈o.op.operands,∀d,bB σ0 x=some d->SR c h w (a.eval x) d:=by
 intro x F d D;cases x with
 |tmp t=>cases D;have:=hs t;rw[<-hf.1 t F] at this;exact SR.iQ.1 this
 |const v=>exact Zc D
 |global g=>cases D
 |func f=>cases D;exact⟨[],[],rfl,.nil,.nil⟩
theorem amJ {n:Nat} {E:cQ} {κ:Ky} {o:Oper} {σ:SF} {h:Hp} {σ0:cG} {H H':aG} {v:DS} {a:Act} {w:World} (O: ∀x,o.dst=some x->x<n) (U:Told n E σ h a w) (hf:gS κ o σ h σ0 H H') (hs:St P o σ0 H v H') {N:Act->World->Prop} (M: ∀D w',Told n E (im σ o.dst (iQ v)) (bC h (aj H')) D w'->N D w'):o.wp P a w N Q:=by obtain⟨⟨c,h1,h2⟩,F,J⟩:=U;exact hs E c h w a N Q h1 hf.2.1 hf.2.2.1 (aat hf h2) fun val w' c' g1 g2 g3=>M _ _ ⟨⟨c',g1,Mh F O (fun t=>(h2 t).fL g2) (SR.iQ.2 g3)⟩,by rw[LU];exact F,by rw[put_defers];exact J⟩
theorem Yp {n:Nat} {E:cQ} {σ:SF} {h:Hp} {a:Act} {w:World} {d:Option Tmp} (J: ∀x,d=some x->x<n) (M:Told n E σ h a w):Told n E (im σ d (.fk [])) h (a.put d undef) w:=by obtain⟨⟨c,h1,h2⟩,D,F⟩:=M;exact⟨⟨c,h1,Mh D J h2 ⟨[],rfl,.nil⟩⟩,by rw[LU];exact D,by rw[put_defers];exact F⟩
theorem aaq {D:Array Bool} {j:Nat} (h:j<D.size):D.getD j false=D.getD j true:=by grind
structure Ci (ops:Array Oper) (listed:Array Bool) (R:List (Nat×Ky)):Prop where
 sz:listed.size=ops.size
 un: ∀j,j<ops.size->(listed.getD j true=false<-> ∃k,(j,k)∈R)
 sg:rX ops (ph ops.toList 0 0) R=true
 self: ∀x∈R,MC ops x=true
 closed:acr ops (fun j=>listed.getD j false=true)
theorem Xt: ∀(F D:List (Nat×Ky)) (x:Nat×Ky),rX ops ms (F++x::D)=true->(∀y∈F,r5 ops ms y x=true)/\(∀y∈D,r5 ops ms x y=true)/\rX ops ms (F++D)=true:=by
 intro F
 induction F with
 |nil=>intro D x h;simp only[List.nil_append,rX,ae7,au9] at h;grind
 |cons z t M=>
  intro D x h;simp only[List.cons_append,rX,ae7,au9] at h;obtain⟨h1,h2⟩:=h;obtain⟨i1,i2,i3⟩:=M D x h2;refine⟨fun y J=>?_,i2,?_⟩
  · grind
  · simp only[List.cons_append,rX,ae7,au9];refine⟨fun y J=>h1 y ?_,i3⟩;rcases as3.1 J with J |J
    · grind
    · grind
theorem YK {x y:Nat×Ky} (h:r5 ops ms x y=true):x.1≠y.1:=by grind[r5]
theorem akC {x y:Nat×Ky} (h:r5 ops ms x y=true) {o:Oper} (D:ops[x.1]? =some o): ∀e∈o.after,Region.binds .any e=true->e.on≠y.1:=by
 intro e he F hc;unfold r5 at h;rw[D] at h;split at h
 · rename_i ox oi h1 h2;cases h1;simp only[ae7,Bool.not_eq_true'] at h;have:=h.1.2;rw[Array.any_eq_false'] at this;grind
 · grind
theorem Yx {x:Nat×Ky} (h:MC ops x=true): ∃o,ops[x.1]? =some o/\ ∀e∈o.after,Region.binds .any e=true->e.on≠x.1/\e.on<ops.size:=by
 unfold MC at h;split at h
 · rename_i o D;refine⟨o,D,fun e he F=>?_⟩;have:=Array.all_eq_true_iff_forall_mem.1 h e he;grind
 · grind
theorem Ci.head {F:Array Bool} {x:Nat×Ky} {R:List (Nat×Ky)} (h:Ci ops F (x::R)):x.1∈Region.ready .any ops F:=by
 obtain⟨o,D,hs⟩:=Yx (h.self x at9);have hp:=h.sg;simp only[rX,ae7,au9] at hp;have N:x.1<ops.size:=(ay5.1 D).1;rw[mem_ready];refine⟨(h.un _ N).2 ⟨x.2,at9⟩,o,D,fun e he M=>?_⟩;obtain⟨U,J⟩:=hs e he M;rw[aaq (h.sz▸J)];apply Classical.byContradiction;intro Y;have O:F.getD e.on true=false:=by grind
 obtain⟨k,hk⟩:=(h.un _ J).1 O;rcases at3.1 hk with hk |hk
 · grind
 · exact akC (hp.1 _ hk) D e he M rfl
theorem Ci.step {M:Array Bool} {N O:List (Nat×Ky)} {i:Nat} {k:Ky} (h:Ci ops M (N++(i,k)::O)) (hr:i∈Region.ready .any ops M):Ci ops (M.setIfInBounds i true) (N++O):=by
 obtain⟨p1,p2,p3⟩:=Xt N O (i,k) h.sg;obtain⟨h0,o,ho,ah⟩:=mem_ready.1 hr;have an:=(ay5.1 ho).1;refine⟨by simp [h.sz],fun j U=>?_,p3,fun x hx=>h.self x ?_,fun j U o' J e he Y=>?_⟩
 · by_cases D:i=j
   · subst D;constructor
     · simp
     · rintro⟨k',F⟩;rcases as3.1 F with F |F
       · exact(YK (p1 (i,k') F) rfl).elim
       · exact(YK (p2 (i,k') F) rfl).elim
   · rw[getD_set_ne true D,h.un j U];constructor
     · grind
     · grind
 · grind
 · by_cases D:i=j
   · subst D;rw[ho] at J;injection J with J;subst J;exact getD_set_true (ah e he Y)
   · have Z:(M.setIfInBounds i true).getD j false=true:=U;rw[getD_set_ne false D] at Z;exact getD_set_true (h.closed j Z o' J e he Y)
theorem aqg {n:Nat} (hd:F8 n ops=true) {E:cQ} {K:SF->Hp->Prop} {KP:Value->Hp->Prop} (hK: ∀σ h a w,Told n E σ h a w->K σ h->Q .normal a w)
  (av:Nb KP) (hP: ∀v h c a w,Conc E c h w->a.tmps.size=n->a.defers=E.df->KP v h->Q (.panic (F9 v)) a w): ∀(fuel:Nat) (M:Array Bool) (R:List (Nat×Ky)) (σ:SF) (h:Hp) (a:Act) (w:World),
  R.length<=fuel->Ci ops M R->Told n E σ h a w->jb P ops (ph ops.toList 0 0) none R σ h K KP->wpAny P .any ops Q fuel M a w:=by
 intro fuel
 induction fuel with
 |zero=>
  intro M R σ h a w hf D J Z;have hR:R=[]:=aw2.1 (by omega)
  subst hR;refine⟨?_,hK σ h a w J Z⟩;cases hc:Region.ready .any ops M with
  |nil=>rfl
  |cons i t=>
   have hm:i∈Region.ready .any ops M:=by rw[hc];exact at9
   obtain⟨h0,o,F,_⟩:=mem_ready.1 hm;obtain⟨k,hk⟩:=(D.un i (ay5.1 F).1).1 h0;cases hk
 |succ fuel ih=>
  intro M R σ h a w hf D J Z;refine⟨fun h0=>?_,fun i hi=>?_⟩
  · cases R with
    |nil=>exact hK σ h a w J Z
    |cons x R=>have:=D.head;rw[h0] at this;cases this
  · obtain⟨h0,o,F,az⟩:=mem_ready.1 hi;obtain⟨k,hk⟩:=(D.un i (ay5.1 F).1).1 h0;obtain⟨O,R2,rfl⟩:=List.append_of_mem hk;obtain⟨p1,p2,p3⟩:=Xt O R2 (i,k) D.sg
    have hm: ∀x∈O,pH (ph ops.toList 0 0) i x.1=false:=by
     intro x hx;apply Classical.byContradiction;intro hb;have U:pH (ph ops.toList 0 0) i x.1=true:=by grind
     unfold pH at U;rw[ae7] at U;have hl:=alX D.closed ops.toList 0 0 (fun j=>by simp) (fun j _ k _ hk=>by simp at hk) i (fun o' Y e he aE=>by rw[F] at Y;injection Y with Y;subst Y;exact az e he aE) x.1 (of_decide_eq_true U.1) U.2
     obtain⟨ox,a6,_⟩:=Yx (D.self x (List.mem_append_left _ hx));have ar:=(ay5.1 a6).1;have:=(D.un x.1 ar).2 ⟨x.2,List.mem_append_left _ hx⟩;rw[aaq (D.sz▸ar),this] at hl;cases hl
    have ah:=jb.front (ms:=ph ops.toList 0 0) O R2 _ _ _ K KP av p1 hm Z;have an:=D.step hi;have hlen:(O++R2).length<=fuel:=by grind
    unfold wpOp;rw[F];simp only;have a7:=J;obtain⟨⟨c,g1,g2⟩,g3,g4⟩:=a7;rcases ah with⟨σ1,h1,s1,ah⟩ |⟨_,pv,h1,⟨_,o2,N,hw,τ,H,H',f1,s1,rfl⟩,a1,_⟩
    · rcases s1 with⟨b1,_⟩ |⟨_,o2,N,⟨hw,τ,H,v,H',f1,s1,_,rfl,rfl⟩ |⟨hw,rfl,rfl⟩⟩
      · cases b1
      all_goals
       rw[F] at N;cases N;rw[RM g2 hw]
      · rw[if_pos rfl];exact .inl (amJ (LF hd F) J f1 s1 fun a' w' h'=>ih _ _ _ _ a' w' hlen an h' ah)
      · rw[if_neg (by simp)]
        exact ih _ _ _ _ _ _ hlen an (Yp (LF hd F) J) ah
    · rw[F] at N;cases N;rw[RM g2 hw];exact .inl (s1 E c h w a _ _ g1 f1.2.1 f1.2.2.1 (aat f1 g2) fun w' c' q1 _=>hP pv _ c' a w' q1 g3 g4 a1)
end
theorem arc {P:Program} {Q:Exit->Act->World->Prop} {n:Nat} {E:cQ} {id:Nat} {ops:List Oper} {σ:SF} {h:Hp} {a:Act} {w:World} {K:SF->Hp->Prop} {KP:Value->Hp->Prop} (order:List (Nat×Ky)) (hm:P.follows .mixedOrders=true) (hl:order.length=ops.length) (hc:calm ops.toArray (ph ops 0 0) order=true) (Y:F8 n ops.toArray=true)
  (N: ∀σ h a w,Told n E σ h a w->K σ h->Q .normal a w) (O:Nb KP) (U: ∀v h c a w,Conc E c h w->a.tmps.size=n->a.defers=E.df->KP v h->Q (.panic (F9 v)) a w) (ht:Told n E σ h a w) (hr:jb P ops.toArray (ph ops 0 0) none order σ h K KP):(Code.region id ops.toArray true).wp P Q a w:=
 wp_region_any hm (by
  unfold calm at hc;simp only[ae7,au9] at hc;obtain⟨⟨c1,c2⟩,F⟩:=hc
  have ah:Told n E σ h a {w with drawn:=w.drawn+1}:=by
   obtain⟨⟨c,h1,h2⟩,J,M⟩:=ht;obtain⟨g1,g2⟩:=h1.same (w':={w with drawn:=w.drawn+1}) ⟨rfl,rfl,rfl,ae5 _,fun _ _ _=>rfl⟩
   exact⟨⟨c,g1,fun t=>(h2 t).fL g2⟩,J,M⟩
  refine aqg Y N O U _ _ order σ h a _ (by grind) ⟨by simp,fun j D=>?_,c1,F,fun j D=>?_⟩ ah hr
  · simp_all
  · exfalso;by_cases Z:j<ops.length
    · simp_all
    · simp [Z] at D)
end
end Go.Proofs.YtejhifnjgoclpaaGreatDoor.Fx
