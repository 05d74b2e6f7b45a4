/- Parts of the proofs, put together by a program. -/
import Derived.Test.YtejhifnjgoclpaaGreatDoorE3
import Derived.Deep.AppendSrc
set_option linter.unusedVariables false
set_option linter.unusedSimpArgs false
open Nat renaming le_refl->ab8,zero_le->ae3,eq_of_beq_eq_true->al2,le_trans->an4
open Bool renaming and_eq_true->ad0,or_eq_true->at3
open List renaming length_map->ae2,mem_append->ae5,getElem?_eq_getElem->ae6,length_append->ae7,append_nil->ag5,map_append->ag9,mem_singleton->ah3,mem_cons->ai3,mem_cons_self->am5,length_take->am9,all_eq_true->ao3,mem_map->ar1,take_append_drop->as0,append_assoc->as2,mem_cons_of_mem->as3,getElem?_eq_some_iff->as4,all_cons->at1,length_eq_zero_iff->au1,drop_eq_nil_of_le->au2,take_of_length_le->av3,getElem?_append_left->av5,map_congr_left->av9,map_cons->aw6,getElem?_map->ax1,length_replicate->ax2,replicate_succ->ax3
open Int renaming toNat_natCast->ae9,toNat_of_nonneg->av2,ofNat_le->aw5
open Option renaming map_some->at5,bind_eq_some_iff->at8,isSome_iff_exists->au8
open Array renaming getElem?_eq_some_iff->aw1
namespace Go.Proofs.YtejhifnjgoclpaaGreatDoor.Fx
open Go.RowKit
set_option maxRecDepth 1000000
noncomputable section
section
variable {R:Type} {y:R} {P:Program} {ty:TypeId} {c:Cx} {h:Hp} {w w':World} {E:cQ} {H H':aG} {σ:cG} {K:DS->Option R} {dst:Option Tmp} {ty0:TypeId} {pos:String} {af:Array Edge} {g:Option (Nat×Bool)} {op:Op}
theorem bC.set (hs:Sub H h) (k:Nat) (o:aX):bC h (aj (oset H k o))=bY h k (some o):=by
 funext j;rw[jh];unfold bC bY;by_cases e:j=k
 · grind
 · rw[if_neg e,if_neg e];exact congrFun (bC.self hs) j
theorem acy (c:Cx) (h:Hp) (k:Nat) (v:Value) (o:aX): ∀j,j≠k->bY h k (some o) j=h j/\(⟨bY c.m k v,c.A⟩:Cx).m j=c.m j:=λj D=>⟨iG D,iG D⟩
theorem dZ.one {e:TypeId} {n m:Nat} {v:Value} {xs:List Value} (D:dZ w e n v m xs):v.oneCell'=true:=by rcases D with⟨_,rfl,_⟩ |⟨_,_,_,rfl,_⟩<;>rfl
theorem Conc.setRow (hC:Conc E c h w) {k:Nat} {o':aX} {hs:List (Option Nat)} {n:Nat} (D:cU o'=some (hs,ty,n)) (L:0<n) {v':Value} (U:Ext (Bl c h k) w w') (hm: ∀b,dS v'=some b->Bl c h k b\/w.heap.size<=b) {s:Bool} (N:s=true->E.H k=none) (M:a0c k=false) (Y: ∀o,h k=some o->OL s (c.m k) o v' o')
  {xs:List Value} (F:dZ w' ty n v' (bc o') xs) (O:ay (CR c h w) xs (dM o')): ∃c',Conc E c' (bY h k (some o')) w'/\eN c h w c' (bY h k (some o')) w'/\CR c' (bY h k (some o')) w' v' (.ow k hs.length .all)/\c'.m k=v':=by
 have hk:(⟨bY c.m k v',c.A⟩:Cx).m k=v':=gl _ _ _
 obtain⟨h1,h2⟩:=hC.put k (o':=o') (c':=⟨bY c.m k v',c.A⟩) (h':=bY h k (some o')) (w':=w') (gl _ _ _) (acy c h k v' o') rfl U (by grind) (.inl M) N (by grind) λJ=>by
  cases o' with
  |var=>cases D
  |_=>exact⟨_,_,_,xs,D,L,by rw[hk];exact F,O.mono λ_ _=>CR.fL J⟩
 exact⟨_,h1,h2,⟨F.one,o',gl _ _ _,some (bc o'),by simp [cD,D],_,_,_,D,λm e=>by cases e;exact⟨ab8 _,λ_=>hk.symm⟩⟩,hk⟩
theorem Conc.newVar (hC:Conc E c h w) {k:Nat} (hk:h k=none) (M:a0c k=false) (ty:TypeId) (h0:Nat.beq ty a0i=false) {cs:List Value} {l:List DC} (N:ay (CR c h w) cs l):
  ∃c',Conc E c' (bY h k (some (.var ty l))) (w.alloc (.cells cs.toArray ty))/\eN c h w c' (bY h k (some (.var ty l))) (w.alloc (.cells cs.toArray ty))/\CR c' (bY h k (some (.var ty l))) (w.alloc (.cells cs.toArray ty)) (.pointer (some ⟨w.heap.size,0,none⟩)) (.ptr k 0):=by
 have J:iB w (w.alloc (.cells cs.toArray ty)):=iB.tO ((Below.refl _ _).alloc (ab8 _) _);have e:(⟨bY c.m k (.pointer (some ⟨w.heap.size,0,none⟩)),c.A⟩:Cx).m k=.pointer (some ⟨w.heap.size,0,none⟩):=gl _ _ _;obtain⟨h1,h2⟩:=hC.put k (o':=.var ty l) (c':=⟨bY c.m k (.pointer (some ⟨w.heap.size,0,none⟩)),c.A⟩) (h':=bY h k (some (.var ty l))) (gl _ _ _) (acy c h k _ _) rfl (J.mono λ_=>False.elim) (s:=false) (by rw[e];intro b D;injection D with D;exact .inr (Nat.le_of_eq D)) (.inl M) (λq=>by cases q) (λo F=>by rw[hk] at F;cases F) λL=>⟨w.heap.size,cs.toArray,e,by rw[a0G h0];exact heap_alloc_new w _,N.mono λ_ _=>CR.fL L⟩
 exact⟨_,h1,h2,rfl,_,gl _ _ _,⟨_,_,rfl⟩,_,e,rfl⟩
theorem R9 {e:TypeId} {t:Ty} {v:Value} {l:List (den t)} {xs:List Value} (D:dZ w e (wid t) v l.length xs) (L:ay (CR c h w) xs (aT t l)) (hA: ∀b i,dS v=some b->c.A b i):CR c h w v (.v (.sl t) l):=by
 have hc:= @dZ.cell w _ _ _ _ _ D;rcases D with⟨a,rfl,h0,_⟩ |⟨b,cap,cur,rfl,h2,F,J,_⟩
 · obtain rfl:=au1.1 h0;exact⟨rfl,a,0,rfl,.inl rfl⟩
 · refine⟨rfl,_,_,rfl,.inr ⟨F,J,b,0,rfl,CG.flat.1 (CG.of (h:=h) L λi u hu=>⟨hA _ _ rfl,?_⟩)⟩⟩;grind
theorem Conc.frozen (hC:Conc E c h w) (J:iB w w') {e:TypeId} {t:Ty} {v:Value} {l:List (den t)} {xs:List Value} (D:dZ w' e (wid t) v l.length xs) (F: ∀b,dS v=some b->w.heap.size<=b) (L:ay (CR c h w) xs (aT t l)): ∃c',Conc E c' h w'/\eN c h w c' h w'/\CR c' h w' v (.v (.sl t) l):=by
 obtain⟨h1,h2⟩:=hC.Gw J (λb i=>c.A b i\/dS v=some b) (λb i q=>.inl q) λb i q=>q.imp id λq=>⟨F b q,by
  rcases D with⟨a,rfl,_⟩ |⟨M,cap,cur,rfl,h2,_⟩
  · cases a<;>cases q
  · obtain rfl:=ue q;exact vS h2⟩
 exact⟨_,h1,h2,R9 D (L.mono λ_ _=>CR.fL h2) λb i q=>.inr q⟩
def Holds (w:World) (n:Nat) (v:Value) (m:Nat) (xs:List Value):Prop:=xs.length=m*n/\ ∃a cap,v=.slice a m cap/\(m=0\/ ∃b o,a=some ⟨b,o,none⟩/\ ∀(i:Nat) u,xs[i]? =some u->w.cell? ⟨b,o+i,none⟩=some u)
theorem RS {t:Ty} {l:List (den t)} {v:Value} (F:CR c h w v (.v (.sl t) l)): ∃xs,Holds w (wid t) v l.length xs/\ay (CR c h w) xs (aT t l):=by
 obtain⟨_,a,cap,rfl,D⟩:=F;rcases D with rfl |⟨_,_,b,o,rfl,D⟩
 · exact⟨[],⟨by simp,_,_,rfl,.inl rfl⟩,.nil⟩
 · obtain⟨xs,h1,h2⟩:=(CG.flat.2 D).list;exact⟨xs,⟨by rw[h1.len,hJ],_,_,rfl,.inr ⟨b,o,rfl,λi u hu=>(h2 i u hu).2⟩⟩,h1⟩
theorem Ts {e:TypeId} {n b:Nat} (hs:fU P ty=some (e,n,b)) (hb:b<=1000) {s x:Operand} {a:Act} {m src:Value} {len l:Nat} {xs news:List Value} (O:dZ w e n m len xs) (ah:Holds w n src l news) (bp: ∀u∈news,u.oneCell'=true) (b6:len+l<=1000000000) (es:a.eval s=m) (ex:a.eval x=src)
  {N:Act->World->Prop} {Q:Exit->Act->World->Prop} (Y: ∀v' w',Ext (λb=>dS m=some b) w w'->dZ w' e n v' (len+l) (xs++news)->(∀b,dS v'=some b->dS m=some b\/w.heap.size<=b)->(l=0->v'=m)->N (a.put dst v') w'):
  Oper.wp P ⟨dst,.call {callee:=.builtin .append,args:= #[s,x],argTypes:= #[ty,ty]},ty0,pos,af,g⟩ a w N Q:=by
 obtain⟨inf,z,hu,U,hz,b0,ar,b1,b8⟩:=pd hs;obtain⟨F,ad,cap,rfl,ah⟩:=ah;have fin: ∀v' w',(Builtin.append_ #[ty,ty] ty0 #[m,.slice ad l cap]).run P w=.ok v' w'->N (a.put dst v') w'->Oper.wp P ⟨dst,.call {callee:=.builtin .append,args:= #[s,x],argTypes:= #[ty,ty]},ty0,pos,af,g⟩ a w N Q:=λv' w' hr hn=>by unfold Oper.wp execOp;simp[resolve,invoke,builtin,Sem.run_bind,Sem.run_pure,Result.andThen_ok,List.map_toArray,aw6,List.map_nil,es,ex,hr];exact hn
 by_cases h0:l=0
 · subst h0;have b7:news=[]:=au1.1 (by rw[F,Nat.zero_mul])
   subst b7;refine fin m w ?_ (Y m w (Ext.refl _ _) (by simpa using O) (λb q=>.inl q) λ_=>rfl)
   rcases O with⟨J,rfl,_⟩ |⟨L,cc,cur,rfl,_,Z,_⟩
   · cases J<;>cases ad<;>simp [Builtin.append_,run_underlying hu,Go.sizeOf,typeInfo,U,Builtin.lenOf,Builtin.firstCells,loadCells,loadCellsFrom,storeCells]
   · cases ad<;>simp [Builtin.append_,run_underlying hu,Go.sizeOf,typeInfo,U,Builtin.lenOf,Builtin.firstCells,loadCells,loadCellsFrom,Z,storeCells]
 obtain b3 |⟨bs,os,rfl,b5⟩:=ah
 · exact(h0 b3).elim
 have bb: ∀(j:Nat) u,news[j]? =some u->w.cell? ((⟨bs,os,none⟩:Addr).add j)=some u:=λj u q=>by rw[add_plain];exact b5 j u q
 have hbound:(len+l)*b<=140737488355328:=an4 (Nat.mul_le_mul b6 hb) (by decide)
 rcases O with⟨J,rfl,rfl,rfl⟩ |⟨L,D,cur,rfl,av,aE,a1,a6,a7⟩
 · have ca:Src P inf.size ty (.slice (some ⟨bs,os,none⟩) l cap) l news w:=Src.ofSlice w hu _ _ _ _ (b0▸F) bb bp
   have hf:(Builtin.firstCells inf.size 0 (.slice J 0 0)).run P w.drew=.ok ([]:List Value).toArray w.drew:=by
    cases J with
    |none=>exact run_firstCells_none w.drew _ _ _ _
    |some b2=>exact run_firstCells_some w.drew _ _ b2 _ _ [] (by simp) (by simp)
   have Z:Builtin.nextslicecap (0+l) 0=0+l:=by unfold Builtin.nextslicecap;rw[if_pos (by omega)]
   have bx:=run_append_grow_src (P:=P) w ty ty ty0 e inf z hu U hz J 0 0 [] hf _ l _ ca (by omega) (by omega) (by rw[Z,ar];omega)
   have a8:=grownCap_ge w (0+l) 0 e;have hle:=grownCap_le_maxLen w (0+l) 0 e (by unfold maxLen;omega)
   generalize grownCap w (0+l) 0 e=D at bx a8 hle;obtain⟨D,rfl⟩: ∃q,D=q+1:=⟨D - 1,by omega⟩
   refine fin _ _ bx (Y _ _ ((iB.tO (((Below.refl w.heap.size w).drew).alloc (ab8 _) _)).mono λ_=>False.elim) (.inr ⟨w.heap.size,D,_,rfl,heap_alloc_new w.drew _,a8,hle,?_,?_⟩) (λb q=>.inr (by rw[ue q];exact ab8 _)) λq=>(h0 q).elim)
   · simp[List.nil_append,Array.size_append,List.size_toArray];rw[size_zeroCells,F,b1,<-Nat.add_mul];congr 1;omega
   · simp[List.nil_append,Array.toList_append,Nat.zero_add];rw[List.take_append_of_le_length (by simp [F]),av3 (by simp [F])]
 · have b9:w.ownsRow 0 e n (.slice (some ⟨L,0,none⟩) len (D+1)) len xs:=⟨(show dZ w e n (.slice (some ⟨L,0,none⟩) len (D+1)) len xs from .inr ⟨L,D,cur,rfl,av,aE,a1,a6,a7⟩).len,.inr ⟨L,D+1,cur,rfl,ae3 _,av,aE,a1,a6,a7⟩⟩
   refine wp_append_lies w s x ty rfl 0 e inf z n b hu U hz b0 ar b1 b8 _ len xs es b9 ⟨bs,os,none⟩ l cap news ex F bb bp (by omega) (by unfold maxLen;omega) hbound (ae3 _) w.heap.size rfl ?_
   intro g0 an w' O M b4 cd;refine Y _ w' ⟨M.os,M.tape,M.output,M.size,λb h1 h2=>M.block b h1 λq=>h2 q.symm⟩ (dZ.of O) (λb q=>?_) λq=>(h0 q).elim;cases an with
   |zero=>cases q
   |succ an=>cases q;exact b4.imp id λq=>Nat.le_of_eq q.symm
end
section
variable {R:Type} {y:R} {P:Program} {ty:TypeId} {c:Cx} {h:Hp} {w w':World} {E:cQ} {H H':aG} {σ:cG} {K:DS->aG->Option R} {dst:Option Tmp} {ty0:TypeId} {pos:String} {af:Array Edge} {g:Option (Nat×Bool)} {op:Op}
theorem LW {a:Operand->Value}: ∀{ps:List (Nat×Operand)} {l:List (Nat×DS)},F6 σ ps=some l->(∀p∈ps,∀d,bB σ p.2=some d->SR c h w (a p.2) d)->ay (λp q=>p.1=q.1/\SR c h w p.2 q.2) (ps.map λp=>(p.1,a p.2)) l
 |[],l,e,_=>by cases e;exact .nil
 |(i,x)::r,l,e,D=>by
  unfold F6 at e;split at e<;>try (cases e;done)
  rename_i J F;cases e;exact .cons ⟨rfl,D _ am5 _ J⟩ (LW F λp hp=>D p (as3 _ hp))
theorem abu: ∀{ps:List (Nat×DS)} {vs:List (Nat×Value)} {pl:List (Nat×Nat)} {cl r:List DC},ay (λp q=>p.1=q.1/\SR c h w p.2 q.2) vs ps->M4 pl cl ps=some r-> ∃D,ay (λp q=>p.1=q.1/\ay (CR c h w) p.2.cells.toList q.2) vs D/\oe (λi=>pl[i]?) cl D=some r
 |_,_,pl,cl,r,.nil,e=>⟨[],.nil,e⟩
 |(i,x)::ps,_::vs,pl,cl,r,.cons h1 L,e=>by
  unfold M4 at e;split at e<;>try (cases e;done)
  rename_i off size l hp J;split at e<;>try (cases e;done)
  rename_i hs;obtain⟨D,h2,F⟩:=abu L e;exact⟨(i,l)::D,.cons ⟨h1.1,v7 h1.2 J⟩ h2,by unfold oe;simp only[hp];rw[if_pos hs];exact F⟩
theorem aa6 {t:Ty}: ∀{ps:List (Nat×DS)} {vs:List (Nat×Value)} {rows pre:List (den t)},ay (λp q=>p.1=q.1/\SR c h w p.2 q.2) vs ps->Gg t pre.length ps=some rows->
  ∃F,ay (λp q=>p.1=q.1/\ay (CR c h w) p.2.cells.toList q.2) vs F/\oe (λi=>some (i*wid t,wid t)) (aT t pre++List.replicate (rows.length*wid t) .dead) F=some (aT t (pre++rows))
 |_,_,rows,pre,.nil,e=>by cases e;exact⟨[],.nil,by simp [oe]⟩
 |(i,x)::ps,_::vs,rows,pre,.cons h1 U,e=>by
  unfold Gg at e;split at e<;>try (cases e;done)
  rename_i N;split at e<;>try (cases e;done)
  rename_i a l D O;cases e;unfold acU at D;split at D<;>try (cases D;done)
  rename_i cs M;obtain⟨F,h2,L⟩:=aa6 (pre:=pre++[a]) U (by rw[ae7];exact O)
  refine⟨(i,cA t a)::F,.cons ⟨h1.1,Am D (v7 h1.2 M)⟩ h2,?_⟩;have J:(l.length+1)*wid t=wid t+l.length*wid t:=by rw[Nat.add_mul,Nat.one_mul,Nat.add_comm]
  unfold oe;simp only[List.length_cons,iR,N];rw[if_pos ⟨trivial,by simp [hJ,J]⟩]
  rw[show pre++a::l=pre++[a]++l by simp,<-L,qu,eo,iR,J,<-List.replicate_append_replicate]
  congr 1;rw[List.take_left' (by rw[hJ]),<-as2,List.drop_left' (by simp [hJ])]
  simp [aT]
theorem Ta {e:TypeId} {n b:Nat} (hs:fU P ty=some (e,n,b)) {len:Nat} (an:len*n<=16777216) {a:Operand->Value} {parts:List (Nat×Operand)} {Q:Value->DC->Prop} {ps:List (Nat×List DC)} {r:List DC} (hp:ay (λp q=>p.1=q.1/\ay Q p.2.cells.toList q.2) (parts.map λp=>(p.1,a p.2)) ps) (O: ∀v,Q v .dead)
  (L:oe (λi=>some (i*n,n)) (List.replicate (len*n) .dead) ps=some r): ∃cs:List Value,ay Q cs r/\(execOp a ⟨dst,.buildSlice ty len parts.toArray,ty0,pos,af,g⟩).run P w=.ok (.value (.slice (some ⟨w.heap.size,0,none⟩) len len)) (w.alloc (.cells cs.toArray e)):=by
 obtain⟨inf,z,hu,F,Y,U,ah,av,ar⟩:=pd hs;have J: ¬(len*n>2 ^24):=by omega
 have M:(sizeOf e).run P w=.ok n w:=by simp [Go.sizeOf,typeInfo,F,U]
 have hm:(parts.toArray.map λ(i,x)=>(i,a x)).toList=parts.map λp=>(p.1,a p.2):=by simp
 have N: ∀l:List Value,ay Q l (List.replicate l.length .dead):=λl=>by
  induction l with
  |nil=>exact .nil
  |cons v l ih=>exact .cons (O v) ih
 by_cases h0:len*n=0
 · obtain⟨D,f1,f2⟩:=Su hp (cells:= #[]) (cl:=List.replicate (len*n) .dead) (h0▸.nil) L;have Z: ∀f:Nat->Value,(Array.range (len*n)).map f= #[]:=λf=>by rw[h0];apply Array.ext';simp
   refine⟨D.toList,f2,?_⟩;simp[execOp,Instr.buildSlice,run_underlying hu,M,if_neg J,if_pos h0,Sem.run_pure,Z,f1];simp [newRow,Sem.run]
 · have hzero:(zeroValue e).run P w=.ok z w:=by simp [zeroValue,typeInfo,F,Y]
   obtain⟨D,f1,f2⟩:=Su hp (cells:=(Array.range (len*n)).map (z.cells[· %z.cells.size]!)) (cl:=List.replicate (len*n) .dead) (by
    have:=N ((Array.range (len*n)).map (z.cells[· %z.cells.size]!)).toList
    grind) L
   refine⟨D.toList,f2,?_⟩;simp[execOp,Instr.buildSlice,Sem.run_bind,run_underlying hu,M,if_neg J,if_neg h0,hzero,hm,f1];simp [newRow,Sem.run]
theorem dZ.lit (w:World) {e:TypeId} {n len:Nat} {cs:List Value} (D:cs.length=len*n) (hm:len<=maxLen):dZ (w.alloc (.cells cs.toArray e)) e n (.slice (some ⟨w.heap.size,0,none⟩) len len) len cs:=by
 cases len with
 |zero=>exact .inl ⟨_,rfl,rfl,au1.1 (by omega)⟩
 |succ len=>exact .inr ⟨_,len,_,rfl,heap_alloc_new w _,ab8 _,hm,by grind,by simp [<-D]⟩
theorem ER (w:World) (o:Obj):iB w (w.alloc o):=iB.tO ((Below.refl _ _).alloc (ab8 _) _)
theorem Conc.newRow (hC:Conc E c h w) {k:Nat} (hk:h k=none) (L:a0c k=false) {e:TypeId} {t:Ty} {l:List (den t)} {v:Value} {xs:List Value} (F:0<wid t) (N:Ext (λ_=>False) w w') (J:dZ w' e (wid t) v l.length xs) (D: ∀b,dS v=some b->w.heap.size<=b) (M:ay (CR c h w) xs (aT t l)):
  ∃c',Conc E c' (bY h k (some (.row [] e t l))) w'/\eN c h w c' (bY h k (some (.row [] e t l))) w'/\CR c' (bY h k (some (.row [] e t l))) w' v (.ow k 0 .all):=by
 obtain⟨c',h1,h2,O,_⟩:=hC.setRow (k:=k) (o':=.row [] e t l) (s:=false) rfl F (N.mono λ_=>False.elim) (λb q=>.inr (D b q)) (λq=>by cases q) L (λo q=>by rw[hk] at q;cases q) J M
 grind
theorem Yl {b p:Nat} {cs:Array Value} {e:TypeId} (D:w.heap[b]? =some (.cells cs e (0,0))) {us:List Value} (hf:p+us.length<=cs.size) (F: ∀v∈us,v.oneCell'=true):(storeCells ⟨b,p,none⟩ us).run P w=.ok () (w.setRow b (eo cs.toList p us).toArray)/\
  (w.setRow b (eo cs.toList p us).toArray).heap[b]? =some (.cells (eo cs.toList p us).toArray e (0,0))/\Ext (λq=>q=b) w (w.setRow b (eo cs.toList p us).toArray):=by
 refine⟨?_,setRow_heap w b cs _ e _ D,rfl,rfl,rfl,by simp,λq _ J=>setRow_other w b q _ J⟩
 rw[run_storeCells_at (P:=P) b p e us 0 cs w D (by grind) F]
 rfl
theorem wI {us:List Value} {l:List DC} (D:ay (CR c h w) us l): ∀v∈us,v.oneCell'=true:=by
 induction D with
 |nil=>grind
 |cons h1 _ F=>intro v D;rcases ai3.1 D with rfl |D;exact CR.one h1;grind
theorem QJ {α:Type} {A B C us:List α} {j n:Nat} (F:n=A.length) (D:j+us.length<=B.length):eo (A++B++C) (n+j) us=A++eo B j us++C:=by
 subst F;unfold eo;rw[as2 A B C,List.take_append,List.drop_append,av3 (by simp),au2 (by omega),List.take_append_of_le_length (by omega),show A.length+j+us.length - A.length=j+us.length by omega,List.drop_append_of_le_length D]
 simp
theorem Conc.RI (hC:Conc E c h w) {k:Nat} {o o':aX} {hs:List (Option Nat)} {n b cap p:Nat} (an:a0c k=false) (hk:h k=some o) (J:cU o=some (hs,ty,n)) (L:cU o'=some (hs,ty,n)) (D:bc o'=bc o) (hm:c.m k=.slice (some ⟨b,0,none⟩) (bc o) cap) (h0:0<bc o) {us:List Value} (ah: ∀v∈us,v.oneCell'=true) (hf:p+us.length<=bc o*n)
  (hv: ∀xs,ay (CR c h w) xs (dM o)->ay (CR c h w) (eo xs p us) (dM o')): ∃c' M,(storeCells ⟨b,p,none⟩ us).run P w=.ok () M/\Conc E c' (bY h k (some o')) M/\eN c h w c' (bY h k (some o')) M:=by
 obtain⟨hn,xs,U,hx⟩:=(hC.obj k o hk).row J;have hlen:=U.len;rcases U with⟨a,_,e2,_⟩ |⟨b',Y,cur,F,h2,h3,h4,h5,N⟩
 · omega
 rw[hm] at F;simp[Option.some.injEq] at F;obtain⟨⟨rfl,_⟩,_,rfl⟩:=F;have ar:bc o*n<=cur.toList.length:=by rw[<-hlen,<-N,am9];omega
 obtain⟨r1,r2,r3⟩:=Yl (P:=P) (p:=p) h2 (us:=us) (by grind) ah
 have O:Bl c h k b:=⟨⟨o,hk⟩,by rw[hm];rfl⟩
 have ht:(eo cur.toList p us).toArray.toList.take (bc o'*n)=eo xs p us:=by
  rw[D];have Z:cur.toList=xs++cur.toList.drop (bc o*n):=by rw[<-N,as0]
  have:=QJ (A:=[]) (B:=xs) (C:=cur.toList.drop (bc o*n)) (j:=p) (us:=us) rfl (by omega)
  simp[List.length_nil] at this;rw[<-Z] at this;rw[this,List.take_append_of_le_length (by rw[P6 (by omega)];omega),av3 (by rw[P6 (by omega)];omega)]
 obtain⟨c',g1,g2,_,_⟩:=hC.setRow (k:=k) L hn (v':=c.m k) (s:=false) (r3.mono λq e=>e▸O) (λq e=>.inl (by rw[hm] at e;rw[ue e];exact O)) (λq=>by cases q) an (λo1 e=>by rw[hk] at e;cases e;unfold OL;rw[J];exact⟨_,L,.inl ⟨λg m q=>by unfold cD at q⊢;rw[J] at q;rw[L,D];exact q,.inl ⟨D,rfl⟩⟩⟩) (xs:=eo xs p us) (.inr ⟨b,Y,_,by rw[hm,D],r2,by rw[D];exact h3,h4,by rw[List.size_toArray,P6 (by omega)];grind,ht⟩) (hv xs hx)
 grind
end
section
variable {R:Type} {y:R} {P:Program} {ty:TypeId} {c:Cx} {h:Hp} {w w':World} {E:cQ} {H H':aG} {σ:cG} {K:DS->aG->Option R} {dst:Option Tmp} {ty0:TypeId} {pos:String} {af:Array Edge} {g:Option (Nat×Bool)} {op:Op} {v:DS}
theorem St.put {o:Oper} {k:Nat} {o':aX} (F: ∀(E:cQ) (c:Cx) (h:Hp) (w:World) (a:Act) (N:Act->World->Prop) (Q:Exit->Act->World->Prop),Conc E c h w->Sub H h->(aj H k=none->h k=none)->(∀x∈o.op.operands,∀d,bB σ x=some d->SR c h w (a.eval x) d)->
  (∀val w' c',Conc E c' (bY h k (some o')) w'->eN c h w c' (bY h k (some o')) w'->SR c' (bY h k (some o')) w' val v->N (a.put o.dst val) w')->o.wp P a w N Q):St P o σ H v (oset H k o'):=
 λE c h w a N Q hC hs hf J D=>F E c h w a N Q hC hs (λe=>hf k e (by rw[jh,gl];simp)) J (by rw[bC.set hs] at D;exact D)
theorem qE {o:Oper} {a:Act} {val:Value} {N:Act->World->Prop} {Q:Exit->Act->World->Prop} (F:(execOp a.eval o).run P w=.ok (.value val) w') (D:N (a.put o.dst val) w'):o.wp P a w N Q:=by unfold Oper.wp;rw[F];exact D
theorem SR.unit (c:Cx) (h:Hp) (w:World):SR c h w undef (.fk []):=⟨[],rfl,.nil⟩
theorem RJ {x z:Operand} {agg:Bool} {n b p:Nat} (hs:nB P ty=some (agg,n)) {a:Act} (J:a.eval x=.pointer (some ⟨b,p,none⟩)) (L:(a.eval z).cells.toList.length=n) {D:World} (M:(storeCells ⟨b,p,none⟩ (a.eval z).cells.toList).run P w=.ok () D)
  {N:Act->World->Prop} {Q:Exit->Act->World->Prop} (F:N (a.put dst undef) D):Oper.wp P ⟨dst,.store ty x z,ty0,pos,af,g⟩ a w N Q:=by
 have:(execOp a.eval ⟨dst,.store ty x z,ty0,pos,af,g⟩).run P w=.ok .skip D:=by simp[execOp,J,Instr.storeAt,Instr.sureAddr,storeVar,(rW hs w).2];simp_all
 unfold Oper.wp;rw[this];exact F
theorem amO {x z:Operand} {d d':DS} (hx:bB σ x=some d) (hz:bB σ z=some d') (J:MB P H ty d d' K=some y): ∃v H',K v H'=some y/\St P ⟨dst,.store ty x z,ty0,pos,af,g⟩ σ H v H':=by
 unfold MB at J;split at J<;>try (cases J;done)
 · rename_i agg n k i l hs hl;split at J<;>try (cases J;done)
   rename_i vt cells L;obtain⟨h1,h2⟩:=bL J;rw[ad0,ad0,Bool.not_eq_true',Bool.not_eq_true',ad0,decide_eq_true_eq,decide_eq_true_eq] at h1;obtain⟨⟨Y,h0⟩,h1⟩:=h1;refine⟨_,_,h2,St.put λE c h w a N Q hC M _ O hN=>?_⟩;obtain⟨b,hm,ex⟩:=F5 (w:=w) M L (O x (by simp [Op.operands]) _ hx)
   have hu:=v7 (O z (by simp [Op.operands]) _ hz) hl
   have a7:=hu.len;obtain⟨b',cs,Z,e2,e3⟩:=hC.obj k _ (M _ _ L);rw[a0G h0] at e2;rw[hm] at Z;injection Z with Z;injection Z with Z;cases Z;have bp:=e3.len;obtain⟨r1,r2,r3⟩:=Yl (P:=P) (p:=i) e2 (us:=(a.eval z).cells.toList) (by grind) (wI hu)
   have F:Bl c h k b:=⟨⟨_,M _ _ L⟩,by rw[hm];rfl⟩
   obtain⟨g1,g2⟩:=hC.put k (o':=.var vt (eo cells i l)) (c':=c) (h':=bY h k (some (.var vt (eo cells i l)))) (gl _ _ _) (λj hj=>⟨iG hj,rfl⟩) rfl (r3.mono λq e=>e▸F) (λq e=>.inl ⟨F.1,e⟩) (.inl Y) (s:=false) (λq=>by cases q) (λo1 e=>by rw[M _ _ L] at e;cases e;exact⟨⟨_,rfl⟩,rfl⟩) λa8=>⟨b,_,hm,by rw[a0G h0];exact r2,by rw[List.toList_toArray];exact(e3.eo hu i).mono λ_ _=>CR.fL a8⟩
   exact RJ hs ex (by omega) r1 (hN undef _ _ g1 g2 (SR.unit _ _ _))
 · rename_i agg n k gn p l hs hl;split at J<;>try (cases J;done)
   · rename_i aE e t rows i j L;obtain⟨h1,h2⟩:=bL J;rw[ad0,Bool.not_eq_true',ad0,decide_eq_true_eq,decide_eq_true_eq] at h1;obtain⟨az,h1⟩:=h1;obtain⟨q,hq,h3⟩:=at8.1 h2;split at h3<;>try (cases h3;done)
     rename_i q' bb;refine⟨_,_,h3,St.put λE c h w a N Q hC M _ O hN=>?_⟩;obtain⟨_,_,wd,Y,hi,b,cap,hm,ex⟩:=iJ (w:=w) M L (O x (by simp [Op.operands]) _ hx)
     injection id Y with an;simp[Prod.mk.injEq] at an;obtain⟨rfl,rfl,rfl⟩:=an;have hu:=v7 (O z (by simp [Op.operands]) _ hz) hl
     have a7:=hu.len;have av:=(as4.1 hq).1;have e4:rows=rows.take i++q::rows.drop (i+1):=by rw[<-(as4.1 hq).2,<-List.drop_eq_getElem_cons av,as0]
     have e5:rows.set i q'=rows.take i++q'::rows.drop (i+1):=by rw[List.set_eq_take_append_cons_drop,if_pos av]
     have a6:(rows.take i).length=i:=by simp;omega
     obtain⟨c',w1,r1,g1,g2⟩:=hC.RI (P:=P) (o':=.row aE e t (rows.set i q')) (p:=i*wid t+j) (us:=(a.eval z).cells.toList) az (M _ _ (jG L).1) Y rfl (by simp [bc]) hm (by omega) (wI hu) (by
       have:(i+1)*wid t<=rows.length*wid t:=Nat.mul_le_mul_right _ av;rw[Nat.add_mul,Nat.one_mul] at this;simp only[bc];omega) (λxs D=>by
      have D:ay (CR c h w) xs (aT t rows):=D;rw[e4,qu,aT,<-as2] at D;show ay (CR c h w) _ (aT t (rows.set i q'));rw[e5,qu,aT,<-as2];have bx:=D.len;have U:=(D.take (i*wid t+wid t)).take (i*wid t);have F:=(D.take (i*wid t+wid t)).drop (i*wid t);have hc:=D.drop (i*wid t+wid t);have el:(aT t (rows.take i)++cA t q).length=i*wid t+wid t:=by rw[ae7,hJ,iR,a6]
      have ar:(aT t (rows.take i)).length=i*wid t:=by rw[hJ,a6]
      rw[List.take_left' el,List.take_left' ar] at U;rw[List.take_left' el,List.drop_left' ar] at F;rw[List.drop_left' el] at hc;have a1:=F.len;rw[iR] at a1;have ah:=U.len;rw[ar] at ah;have:=QJ (us:=(a.eval z).cells.toList) (n:=i*wid t) (j:=j) (C:=xs.drop (i*wid t+wid t)) ah.symm (B:=(xs.take (i*wid t+wid t)).drop (i*wid t)) (by omega)
      rw[as0,as0] at this;rw[this];exact(U.app (Am bb (F.eo hu j))).app hc)
     exact RJ hs ex (by omega) r1 (hN undef _ _ g1 g2 (SR.unit _ _ _))
   · rename_i aE e t b0 rows last j L;obtain⟨h1,h2⟩:=bL J;obtain⟨h0,h3⟩:=bL h2;simp[ad0,decide_eq_true_eq] at h1;rw[ad0,Bool.not_eq_true',Bool.not_eq_true'] at h0;obtain⟨az,rfl⟩:=h0;refine⟨_,_,h3,St.put λE c h w a N Q hC M _ O hN=>?_⟩;obtain⟨_,_,wd,Y,hi,b,cap,hm,ex⟩:=iJ (w:=w) M L (O x (by simp [Op.operands]) _ hx)
     injection id Y with an;simp[Prod.mk.injEq] at an;obtain⟨rfl,rfl,rfl⟩:=an;have hu:=v7 (O z (by simp [Op.operands]) _ hz) hl
     have a7:=hu.len
     obtain⟨c',w1,r1,g1,g2⟩:=hC.RI (P:=P) (o':=.bI aE e t false rows (last.take j++l++last.drop (j+l.length))) (p:=rows.length*wid t+j) (us:=(a.eval z).cells.toList) az (M _ _ (jG L).1) Y rfl rfl hm (Nat.succ_pos _) (wI hu) (by show _<=(rows.length+1)*wid t;rw[Nat.add_mul,Nat.one_mul];omega) (λxs D=>by
      have D:ay (CR c h w) xs (aT t rows++last):=D;show ay (CR c h w) _ (aT t rows++eo last j l);have U:=D.take (rows.length*wid t);have F:=D.drop (rows.length*wid t);rw[List.take_left' (hJ rows)] at U;rw[List.drop_left' (hJ rows)] at F;have ah:=U.len;rw[hJ] at ah;have a1:=F.len;have:=QJ (us:=(a.eval z).cells.toList) (n:=rows.length*wid t) (j:=j) (C:=[]) ah.symm (B:=xs.drop (rows.length*wid t)) (by omega)
      rw[as0,ag5,ag5] at this;rw[this];exact U.app (F.eo hu j))
     exact RJ hs ex (by omega) r1 (hN undef _ _ g1 g2 (SR.unit _ _ _))
theorem TH {d:DS} {u:Value} (D:OE d=true) (hu:SR c h w u d): ∃a,u=.slice a 0 0:=by
 unfold OE at D;split at D
 · exact hu
 · exact⟨none,hu⟩
 · grind
theorem Ub (a:Option Addr):dS (.slice a 0 0)=none:=by cases a<;>rfl
theorem Z6 {t:Ty} {d:DS} {u:Value} {more:List (den t)} (D:MX t d=some more) (hu:SR c h w u d): ∃news,Holds w (wid t) u more.length news/\ay (CR c h w) news (aT t more):=by
 unfold MX at D;split at D<;>try (cases D;done)
 · cases D;have hu:=hu;subst hu;exact⟨[],⟨by simp,_,_,rfl,.inl rfl⟩,.nil⟩
 · exact RS (uf rfl D hu)
theorem Zy {hs:List (Option Nat)} {o o':aX} {e D:TypeId} {n F m:Nat} {q:Option Nat} (h1:cU o=some (hs,e,n)) (h2:cU o'=some (hs++[some m],D,F)) (hm:m=bc o) {g:Nat} (J:cD o g=some q):cD o' g=some q:=by grind[cD]
theorem ace {t:Ty} {l:List DC} {x:den t} (he:pF (lV Nt t l)=some x) {vs:List Value} (F:ay (CR c h w) vs l):ay (CR c h w) vs (cA t x):=by
 obtain⟨J,e,h1⟩:=FL (Q:=CR c h w) (Q':=CR c h w) (λt x d v hs D F=>by
  unfold Nt at D;split at D<;>try (cases D;done)
  split at D<;>try (cases D;done)
  rename_i e _;obtain⟨e⟩:=e;subst e;cases D;exact F) t (Fl he)
 grind
theorem abN {s x:Operand} {k M n b:Nat} {e:TypeId} (hS:fU P ty=some (e,n,b)) (hb:b<=1000) (aE:a0c k=false) {o o':aX} {hs:List (Option Nat)} {L:DS} (a1:bB σ s=some (.c (.ow k M .all))) (a7:bB σ x=some L) (U:rowAt H k M=some o) (D:cU o=some (hs,e,n)) (F:cU o'=some (hs++[some (bc o)],e,n)) {l:Nat} (hl:bc o'=bc o+l) (ar:bc o+l<=1000000000)
  (a6: ∀(E:cQ) c h w u,Conc E c h w->Sub H h->SR c h w u L-> ∃news,Holds w n u l news/\(∃q,ay (CR c h w) news q)/\ ∀xs,ay (CR c h w) xs (dM o)->ay (CR c h w) (xs++news) (dM o')):St P ⟨dst,.call {callee:=.builtin .append,args:= #[s,x],argTypes:= #[ty,ty]},ty0,pos,af,g⟩ σ H (.c (.ow k (hs.length+1) .all)) (oset H k o'):=
 St.put λE c h w a N Q hC J _ Y hN=>by
  obtain⟨bb,e2,wd,a8,hm⟩:=iJ (w:=w) J U (Y s (by simp [Op.operands,Call.operands]) _ a1)
  obtain⟨news,h1,⟨q,h2⟩,Z⟩:=a6 E c h w _ hC J (Y x (by simp [Op.operands,Call.operands]) _ a7)
  have hk:=J _ _ (jG U).1;obtain⟨hn,xs,az,hv⟩:=(hC.obj k _ hk).row D;have O: ∀b,dS (c.m k)=some b->Bl c h k b:=λb q=>⟨⟨o,hk⟩,q⟩;refine Ts hS hb az h1 (wI h2) ar hm rfl λv' w' hx av ah an=>?_
  obtain⟨c',g1,g2,g3,_⟩:=hC.setRow (k:=k) F hn (hx.mono O) (λb q=>(ah b q).imp (O b) id) (s:=false) (λq=>by cases q) aE (λo1 q=>by
   rw[hk] at q;cases q;unfold OL;rw[D];refine⟨_,F,.inl ⟨λg n q=>Zy D F rfl q,?_⟩⟩;by_cases h0:l=0
   · exact .inl ⟨by omega,an h0⟩
   · exact .inr (by omega)) (xs:=xs++news) (hl▸av) (Z xs hv)
  rw[ae7] at g3;exact hN v' w' c' g1 g2 g3
theorem amw {cp:Bool} {s x:Operand} {d d':DS} (ah:bB σ s=some d) (ar:bB σ x=some d') (O:wF P H cp dst ty d d' K=some y): ∃v H',K v H'=some y/\St P ⟨dst,.call {callee:=.builtin .append,args:= #[s,x],argTypes:= #[ty,ty]},ty0,pos,af,g⟩ σ H v H':=by
 unfold wF at O;split at O<;>try (cases O;done)
 · rename_i e n b k gn M;obtain⟨h1,h2⟩:=bL O;simp[decide_eq_true_eq] at h1;split at h2<;>try (cases h2;done)
   · rename_i hs e' t rows ho;split at h2<;>try (cases h2;done)
     rename_i more aE;obtain⟨D,F⟩:=bL h2;simp[decide_eq_true_eq] at D;obtain⟨rfl,rfl⟩:=D;obtain⟨h5,J⟩:=iE F;refine⟨_,_,J,abN M h1.1.2 h1.2 ah ar ho rfl rfl (l:=more.length) (by simp [bc]) h5 λE c h w u hC an hu=>?_⟩
     obtain⟨news,g1,g2⟩:=Z6 aE hu;exact⟨news,g1,⟨_,g2⟩,λxs L=>by show ay _ _ (aT t (rows++more));rw[qu];exact L.app g2⟩
   · rename_i hs e' t b' rows last q ho;split at h2<;>try (cases h2;done)
     rename_i x' bb;obtain⟨D,F⟩:=bL h2;simp[decide_eq_true_eq] at D;obtain⟨⟨rfl,rfl⟩,hq⟩:=D;obtain⟨h5,J⟩:=iE F;refine⟨_,_,J,abN M h1.1.2 h1.2 ah ar ho rfl rfl (l:=1) (by cases b'<;>simp [bc]) (by cases b'<;>simp [bc]<;>omega) λE c h w u hC an hu=>?_⟩
     obtain⟨b,o,cap,rfl,_,_,hl⟩:=hu;have hg:CG c h w (Fz c.A w b o) (q.map Ud):=λi u0 hz=>by rw[ax1] at hz;obtain⟨lc,e1,e2⟩:=Option.map_eq_some_iff.1 hz;subst e2;obtain⟨u,f1,f2⟩:=hl i lc e1;exact⟨u,f1,by cases lc<;>exact f2⟩
     obtain⟨news,g1,g2⟩:=hg.list;refine⟨news,⟨by rw[g1.len,ae2,hq,Nat.one_mul],_,_,rfl,.inr ⟨b,o,rfl,λi u hu=>(g2 i u hu).2⟩⟩,⟨_,g1⟩,λxs L=>?_⟩
     refine ay.app ?_ g1;cases b' with
     |true=>exact L
     |false=>have L:ay (CR c h w) xs (aT t rows++last):=L;show ay _ _ (aT t (rows++[x']));rw[qu];have ha:=L.take (aT t rows).length;have hb:=L.drop (aT t rows).length;rw[List.take_left] at ha;rw[List.drop_left] at hb;rw[<-as0 (aT t rows).length xs];exact ha.app (by simpa[aT] using ace bb hb)
 · rename_i e n b M bp;obtain⟨h1,h2⟩:=bL O;simp[decide_eq_true_eq] at h1;have a7: ∀{a:Option Addr} {w:World},dZ w e n (.slice a 0 0) 0 []:=λ{a w}=>.inl ⟨a,rfl,rfl,rfl⟩;have a1: ∀{a:Option Addr} {w w':World},Ext (λb=>dS (.slice a 0 0)=some b) w w'->iB w w':=λZ=>Z.mono λb q=>by rw[Ub] at q;cases q
   have a6: ∀{a:Option Addr} {v:Value} {w:World},(∀b,dS v=some b->dS (.slice a 0 0)=some b\/w.heap.size<=b)-> ∀b,dS v=some b->w.heap.size<=b:=λhb b q=>(hb b q).resolve_left λz=>by rw[Ub] at z;grind
   split at h2<;>try (cases h2;done)
   · rename_i t more _ _;obtain⟨D,F⟩:=bL h2;obtain rfl:=eq_of_beq D;obtain⟨h5,J⟩:=iE F;refine⟨_,_,J,λE c h w a N Q hC an _ Y hN=>?_⟩;rw[bC.self an] at hN;obtain⟨az,ez⟩:=TH h1.1 (Y s (by simp [Op.operands,Call.operands]) _ ah)
     obtain⟨news,g1,g2⟩:=RS (Y x (by simp [Op.operands,Call.operands]) _ ar)
     refine Ts M h1.2 a7 g1 (wI g2) (by omega) ez rfl λv' w' Z U av a8=>?_
     rw[Nat.zero_add] at U;obtain⟨c',f1,f2,f3⟩:=hC.frozen (a1 Z) U (a6 av) g2;exact hN v' w' c' f1 f2 f3
   · rename_i d t _ ht;split at h2<;>try (cases h2;done)
     rename_i more aE;obtain⟨D,F⟩:=bL h2;obtain rfl:=eq_of_beq D;obtain⟨h5,J⟩:=iE F;obtain⟨h7,h8⟩:=bL J;refine⟨_,_,h8,St.put λE c h w a N Q hC an hf Y hN=>?_⟩;obtain⟨az,ez⟩:=TH h1.1 (Y s (by simp [Op.operands,Call.operands]) _ ah)
     obtain⟨news,g1,g2⟩:=Z6 aE (Y x (by simp [Op.operands,Call.operands]) _ ar)
     obtain⟨_,_,_,_,_,_,_,_,hn⟩:=pd M;refine Ts M h1.2 a7 g1 (wI g2) (by omega) ez rfl λv' w' Z U av a8=>?_
     rw[Nat.zero_add] at U;obtain⟨c',f1,f2,f3⟩:=hC.newRow (hf (FN h7)) (a0z h7) hn (a1 Z) U (a6 av) g2;exact hN v' w' c' f1 f2 f3
end
section
variable {R:Type} {y:R} {P:Program} {ty:TypeId} {c:Cx} {h:Hp} {w w':World} {E:cQ} {H H':aG} {σ:cG} {K:DS->aG->Option R} {dst:Option Tmp} {ty0:TypeId} {pos:String} {af:Array Edge} {g:Option (Nat×Bool)} {op:Op} {v:DS}
theorem am0 {x:Operand} {Z Y:Option Operand} {d:DS} {b2 b1:Option DS} (a7:bB σ x=some d) (hl:xP σ Z=some b2) (hh:xP σ Y=some b1) (J:wH P H ty d b2 b1 K=some y): ∃v H',K v H'=some y/\St P ⟨dst,.slice ty x Z Y none,ty0,pos,af,g⟩ σ H v H':=by
 have a1: ∀z∈Z,z∈(Op.slice ty x Z Y none).operands:=λz D=>by have D:Z=some z:=D;subst D;simp [Op.operands]
 have aE: ∀z∈Y,z∈(Op.slice ty x Z Y none).operands:=λz D=>by have D:Y=some z:=D;subst D;simp [Op.operands]
 have a8:x∈(Op.slice ty x Z Y none).operands:=by simp [Op.operands]
 unfold wH at J;split at J<;>try (cases J;done)
 · rename_i t rows e n b hs;split at J<;>try (cases J;done)
   rename_i l k bp bb;obtain⟨h1,h2⟩:=bL J;obtain rfl:=eq_of_beq h1;obtain⟨⟨L,h4,h5⟩,h6⟩:=iE h2;have M:k.toNat<=rows.length:=by omega
   exact⟨_,_,h6,St.val λE c h w a hC O F=>aqZ hs (F x a8 _ a7) (vn hl bp L λz D=>F z (a1 z D)) (vn hh bb (by omega) λz D=>F z (aE z D)) (by omega) M⟩
 · rename_i s;split at J<;>try (cases J;done)
   rename_i l k bp bb;obtain⟨h1,h2⟩:=bL J;obtain⟨⟨L,h4,h5⟩,h6⟩:=iE h2;have M:k.toNat<=List.length s:=by omega
   exact⟨_,_,h6,St.val λE c h w a hC O F=>⟨_,aoy h1 (show a x=_ from(F x a8 _ a7).2.symm) (vn hl bp L λz D=>F z (a1 z D)) (vn hh bb (by omega) λz D=>F z (aE z D)) (by omega) M,rfl,rfl⟩⟩
 · rename_i k gn e n b hs;split at J<;>try (cases J;done)
   · rename_i az e' t l kd i ho;obtain⟨h1,h2⟩:=bL J;obtain⟨L,h4⟩:=iE h2;obtain⟨i,rfl⟩: ∃j:Nat,i=j:=⟨Int.toNat i,(av2 L.1).symm⟩;have h5:=aw5.1 L.2.1;refine⟨_,_,h4,St.val λE c h w a hC O F=>?_⟩;obtain⟨b4,e2,wd,ah,hm⟩:=iJ (w:=w) O ho (F x a8 _ a7);obtain⟨_,xs,bx,_⟩:=(hC.obj k _ (O _ _ (jG ho).1)).row ah;have hw:=eq_of_beq h1;injection id ah with av;simp[Prod.mk.injEq] at av;rcases bx with⟨_,_,h0,_⟩ |⟨U,cap,cur,e1,_,M,_⟩
     · have:=L.2.2;simp only[bc] at h0;omega
     · have ar:=vn hl (l:=i) (d:=0) rfl (by simp) λz D=>F z (a1 z D)
       have an:=vn hh (l:=l.length) (d:=l.length) rfl (by simp) λz D=>F z (aE z D)
       simp[ae9] at ar an;have M:l.length<=cap+1:=M;refine⟨_,To hs (a:=a) (ad:=some ⟨U,0,none⟩) (len:=l.length) (cap:=cap+1) (by rw[show a x=c.m k from hm];exact e1) ar an h5 M,AK (w:=w) O ho rfl λhs e b5 b0=>?_⟩
       rw[ah] at b0;simp[Option.some.injEq,Prod.mk.injEq] at b0;refine⟨h5,L.2.2,U,_,e1,?_⟩;rw[<-b0.2.2,<-av.2.2,hw,ae9];split<;>simp [add_plain,bc]
   · rename_i az e' t l kd i ho;obtain⟨h1,h2⟩:=bL J;rw[ad0] at h1;obtain⟨L,h4⟩:=iE h2;obtain⟨i,rfl⟩: ∃j:Nat,i=j:=⟨Int.toNat i,(av2 L.1).symm⟩;have h5:=aw5.1 L.2.1;refine⟨_,_,h4,St.put λE c h w a N Q hC O _ F hN=>?_⟩;obtain⟨b4,e2,wd,ah,hm⟩:=iJ (w:=w) O ho (F x a8 _ a7);have hk:=O _ _ (jG ho).1;obtain⟨hn,xs,bx,hv⟩:=(hC.obj k _ hk).row ah;injection id ah with av;simp[Prod.mk.injEq] at av;obtain⟨rfl,rfl,rfl⟩:=av;rcases bx with⟨_,_,h0,_⟩ |⟨U,cap,cur,e1,h6,M,h8,h9,b3⟩
     · have:=L.2.2;simp only[bc] at h0;omega
     have M:l.length<=cap+1:=M;have ar:=vn hl (l:=0) (d:=0) rfl (by simp) λz D=>F z (a1 z D)
     have an:=vn hh (l:=i) (d:=l.length) rfl (by simp) λz D=>F z (aE z D)
     simp[ae9] at ar an;have hB:Bl c h k U:=⟨⟨_,hk⟩,by rw[e1];rfl⟩
     have a6:(l.take i).length=i:=by rw[am9];omega
     have hmul:i*wid t<=l.length*wid t:=Nat.mul_le_mul_right _ h5
     obtain⟨c',f1,f2,f3,_⟩:=hC.setRow (k:=k) (o':=.row (List.replicate (az.length+1) none) e' t (l.take i)) (w':=w) (v':=.slice (some ⟨U,0,none⟩) i (cap+1)) rfl hn (Ext.refl _ _) (λb q=>.inl (ue q▸hB)) (s:=true) (λ_=>by
       cases hE:E.H k with
       |none=>rfl
       |some o=>have:=(hC.fV k o hE).1;have h1:=h1.2;simp[at3,Nat.blt_eq,Nat.ble_eq] at h1;omega) (by
       have h1:=h1.2;simp[at3,Nat.blt_eq,Nat.ble_eq] at h1;exact a3J (by omega)) (λo q=>by
       rw[hk] at q;cases q;refine⟨_,rfl,.inr ⟨rfl,λg m q=>?_⟩⟩;have:=(as4.1 (show(az++[some l.length])[g]? =some m from q)).1
       rw[ae7] at this;show(List.replicate (az.length+1) none++[some (l.take i).length])[g]? =some none;have hg:g<az.length+1:=this;rw[av5 (by grind),List.getElem?_replicate,if_pos hg]) (xs:=xs.take (i*wid t)) (.inr ⟨U,cap,cur,by simp [bc,a6],h6,by simp[bc,a6];omega,h8,h9,by
       rw[<-b3,List.take_take];show _=List.take (min (i*wid t) (l.length*wid t)) _;rw[Nat.min_eq_left hmul];show List.take ((l.take i).length*wid t) _=_;rw[a6]⟩) (by
      have hv:ay (CR c h w) xs (aT t l):=hv;have:=hv.take (i*wid t);have e4:aT t l=aT t (l.take i)++aT t (l.drop i):=by rw[<-qu,as0]
      rw[e4,List.take_left' (by rw[hJ,a6])] at this
      exact this)
     refine qE (To hs (a:=a.eval) (ad:=some ⟨U,0,none⟩) (len:=l.length) (cap:=cap+1) (by rw[show a.eval x=c.m k from hm];exact e1) ar an (ae3 _) (by omega)) (hN _ _ c' f1 f2 ?_)
     simp[Int.toNat_zero,ae9,Nat.zero_mul,at5,add_plain,Nat.add_zero,Nat.sub_zero,Nat.succ_ne_zero,if_false];rw[ax2] at f3;exact f3
theorem PY {t:Ty} {q:den t} {us:List Value} (hu:ay (CR c h w) us (cA t q)): ∀m,ay (CR c h w) (List.replicate m us).flatten (aT t (List.replicate m q))
 |0=>.nil
 |m+1=>by rw[ax3];exact hu.app (PY hu m)
theorem Qs {z:Array Value} (F:0<z.size): ∀m:Nat,(List.range (m*z.size)).map (λi=>z[i %z.size]!)=(List.replicate m z.toList).flatten
 |0=>by simp
 |m+1=>by
  rw[ax3,List.flatten_cons,<-Qs F m,Nat.add_mul,Nat.add_comm,List.range_add,ag9,List.map_map];congr 1
  · apply List.ext_getElem (by simp)
    intro i h1 h2;have D:i<z.size:=by grind
    simp [Nat.mod_eq_of_lt D,D]
  · simp
theorem Zt {e:TypeId} {t:Ty} {q:den t} (D:MR P e t=some q) {inf:TypeInfo} {z:Value} (F:P.info? e=some inf) (L:inf.zero=some z):ay (CR c h w) z.cells.toList (cA t q):=by
 unfold MR vf at D;rw[F] at D;simp[L] at D;split at D<;>try (cases D;done)
 rename_i J _;exact Am D (AG J)
theorem an8 {x:Operand} {d:DS} (bp:bB σ x=some d) (F:MN P H ty d K=some y): ∃v H',K v H'=some y/\St P ⟨dst,.call {callee:=.builtin .clear,args:= #[x],argTypes:= #[ty]},ty0,pos,af,g⟩ σ H v H':=by
 unfold MN at F;split at F<;>try (cases F;done)
 rename_i e n b k gn i hS;split at F<;>try (cases F;done)
 rename_i an U t l ho;split at F<;>try (cases F;done)
 rename_i q hq;obtain⟨h1,h2⟩:=bL F;rw[ad0,Bool.not_eq_true'] at h1;obtain⟨a7,h1⟩:=h1;obtain rfl:=eq_of_beq h1;refine⟨_,_,h2,St.put λE c h w a N Q hC ar _ a1 Y=>?_⟩;obtain⟨b5,e2,wd,ah,L,h4,b',cap,hm,ex⟩:=iJ (w:=w) ar ho (a1 x (by simp [Op.operands,Call.operands]) _ bp)
 injection id ah with az;simp[Prod.mk.injEq] at az;obtain⟨rfl,rfl,rfl⟩:=az;obtain⟨inf,z,hu,av,hz,b6,b3,b7,b4⟩:=pd hS;have b0:=Zt (c:=c) (h:=h) (w:=w) hq av hz;have hlen:bc (.row an U t (l.take i++List.replicate (l.length - i) q))=bc (.row an U t l):=by have L:i<=l.length:=L;simp [bc];omega
 have b1: ∀w:World,(zeroValue e).run P w=.ok z w:=λw=>by simp [Go.zeroValue,typeInfo,av,hz]
 have O:=PY b0 (l.length - i);have e3:(Builtin.zeroCells z.cells (l.length - i)).toList=(List.replicate (l.length - i) z.cells.toList).flatten:=by rw[<-Qs (by omega)];simp [Builtin.zeroCells]
 rw[<-e3] at O;have aE:=O.len;rw[hJ,ax2] at aE;have L:i<=l.length:=L;have hmul:i*wid t+(l.length - i)*wid t=l.length*wid t:=by rw[<-Nat.add_mul];congr 1;omega
 obtain⟨c',w1,J,g1,g2⟩:=hC.RI (P:=P) (o':=.row an U t (l.take i++List.replicate (l.length - i) q)) (p:=i*wid t) (us:=(Builtin.zeroCells z.cells (l.length - i)).toList) a7 (ar _ _ (jG ho).1) ah rfl hlen hm h4 (wI O) (by rw[aE,hmul];exact ab8 _) (λxs M=>by
  have M:ay (CR c h w) xs (aT t l):=M;show ay _ _ (aT t (l.take i++List.replicate (l.length - i) q));have a8:(l.take i).length=i:=by rw[am9];omega
  have:=M.take (i*wid t);have e4:aT t l=aT t (l.take i)++aT t (l.drop i):=by rw[<-qu,as0]
  rw[e4,List.take_left' (by rw[hJ,a8])] at this
  rw[qu];have bx:=M.len;rw[hJ] at bx;unfold eo;rw[au2 (by omega),ag5]
  exact this.app O)
 have Y:=Y (.tuple #[]) _ _ g1 g2 (SR.unit _ _ _);obtain⟨_,xs,a6,_⟩:=(hC.obj k _ (ar _ _ (jG ho).1)).row ah
 have sx:l.length<=cap:=by
  rcases a6 with⟨_,D,_⟩ |⟨b2,cp,cur,D,_,h7,_⟩
  · rw[hm] at D;injection D with _ D;simp only[bc] at D h4;omega
  · rw[hm] at D;injection D with _ D e2;simp[bc] at h7;omega
 refine qE (val:=.tuple #[]) (w':=w1) ?_ Y;have ex:a.eval x=.slice (some ⟨b',if cap=i then 0 else i*wid t,none⟩) (l.length - i) (cap - i):=ex
 cases Z:l.length - i with
 |zero=>
  rw[Z] at J ex;have e0:(Builtin.zeroCells z.cells 0).toList=[]:=by simp [Builtin.zeroCells]
  rw[e0] at J;have bb:w1=w:=by simp [storeCells] at J;exact J.symm
  subst bb;simp [execOp,resolve,invoke,builtin,Builtin.clear_,ex,run_underlying hu]
 |succ m=>
  rw[if_neg (by omega),Z] at ex
  rw[Z] at J;simp [execOp,resolve,invoke,builtin,Builtin.clear_,ex,run_underlying hu,b1,J]
end
section
variable {R:Type} {y:R} {P:Program} {ty:TypeId} {c:Cx} {h:Hp} {w w':World} {E:cQ} {H H':aG} {σ:cG} {K:DS->aG->Option R} {dst:Option Tmp} {ty0:TypeId} {pos:String} {af:Array Edge} {g:Option (Nat×Bool)} {op:Op} {v:DS}
theorem ari {u:Value} {x:Sum DC (List DC)} (hu:UR c h w u x):SR c h w u (VA x):=by cases x<;>exact hu
theorem alO {l:List (Nat×Nat)} {z:List Value} (hs:VB P ty=some (l,z)): ∃D,P.underlying ty=some (.struct D)/\vf P ty=some z/\ ∀w,(D.mapM λf=>do pure (f.offset,<-sizeOf f.type):Sem (Array (Nat×Nat))).run P w=.ok l.toArray w:=by
 unfold VB at hs;split at hs<;>try (cases hs;done)
 rename_i D O hu L;split at hs<;>try (cases hs;done)
 rename_i F;injection hs with hs;injection hs with h1 h2;subst h1;subst h2;refine⟨D,hu,L,λw=>?_⟩
 have key: ∀fl:List Field,(fl.all λf=>(P.info? f.type).isSome)=true->(fl.mapM λf=>do pure (f.offset,<-sizeOf f.type):Sem (List (Nat×Nat))).run P w=.ok (fl.map λf=>(f.offset,((P.info? f.type).map (·.size)).getD 0)) w:=by
  intro fl
  induction fl with
  |nil=>simp
  |cons f t N=>
   intro hf;rw[at1,ad0] at hf;obtain⟨i,J⟩:=au8.1 hf.1;have M:(sizeOf f.type).run P w=.ok i.size w:=by simp [Go.sizeOf,typeInfo,J]
   simp_all
 rw[Array.mapM_eq_mapM_toList];simp only[map_eq_pure_bind,Sem.run_bind,key D.toList F,Result.andThen_ok,Sem.run_pure]
theorem SB {a:Operand->Value}: ∀{xs:List Operand} {l:List DC},Gn σ xs=some l->(∀x∈xs,∀d,bB σ x=some d->SR c h w (a x) d)->ay (CR c h w) (xs.map a) l
 |[],l,e,_=>by cases e;exact .nil
 |x::r,l,e,D=>by
  unfold Gn at e;split at e<;>try (cases e;done)
  rename_i J F;cases e;exact .cons (D x am5 _ J) (SB F λz L=>D z (as3 _ L))
theorem ab5: ∀{l:List DC} {q:List LC} {us:List Value},uv l=some q->ay (CR c h w) us l-> ∀(i:Nat) u x,us[i]? =some u->q[i]? =some x->LCR c.A w u x
 |[],q,_,e,.nil=>by intro i u x hu;grind
 |O::r,q,M::us,e,.cons h1 L=>by
  unfold uv at e;split at e<;>try (cases e;done)
  rename_i a N D J;cases e;intro i u x hu F;cases i with
  |succ i=>exact ab5 J L i u x hu F
  |zero=>
   injection hu with hu;injection F with F;subst hu;subst F;unfold ac3 at D;split at D<;>try (cases D;done)
   · split at D<;>try (cases D;done)
     cases D;exact h1
   · cases D;exact⟨rfl,(show M=_ from h1).symm⟩
   · cases D;exact h1
theorem Tc: ∀{l:List DC} {q:List LC},uv l=some q->q.length=l.length
 |[],q,e=>by cases e;rfl
 |x::r,q,e=>by
  unfold uv at e;split at e<;>try (cases e;done)
  rename_i D;cases e;simp [Tc D]
theorem a4F {x:Operand} {d:DS} {k:Tmp} (U:bB σ x=some d) (D:a2a P H k ty d K=some y): ∃v H',K v H'=some y/\St P ⟨some k,.range ty x,ty0,pos,af,g⟩ σ H v H':=by
 unfold a2a at D;split at D<;>try (cases D;done)
 rename_i t;obtain⟨h1,h2⟩:=bL D;rw[ad0] at h1;obtain⟨h1,hs⟩:=h1;refine⟨_,_,h2,St.put λE c h w a N Q hC Z hf O L=>?_⟩;have eu:Value.string ⟨t.toArray⟩=a.eval x:=(O x (by simp [Op.operands]) _ U).2
 have M:iB w (w.alloc (.stringIter ⟨t.toArray⟩ 0)):=iB.tO ((Below.refl _ _).alloc (ab8 _) _);have e:(⟨bY c.m k (.pointer (some ⟨w.heap.size,0,none⟩)),c.A⟩:Cx).m k=.pointer (some ⟨w.heap.size,0,none⟩):=gl _ _ _;have hk:=hf (FN h1);obtain⟨g1,g2⟩:=hC.put k (o':=.var a0i [.v .str t,.v (.int .i64) 0]) (c':=⟨bY c.m k (.pointer (some ⟨w.heap.size,0,none⟩)),c.A⟩) (h':=bY h k (some (.var a0i [.v .str t,.v (.int .i64) 0]))) (gl _ _ _) (acy c h k _ _) rfl (M.mono λ_=>False.elim) (s:=false) (by rw[e];intro b F;injection F with F;exact .inr (Nat.le_of_eq F)) (.inl (a0z h1)) (λq=>by cases q) (λo J=>by rw[hk] at J;cases J) λY=>⟨w.heap.size,#[.string ⟨t.toArray⟩,.int .i64 0],e,heap_alloc_new w _,.cons ⟨rfl,rfl⟩ (.cons ⟨rfl,rfl⟩ .nil)⟩
 refine qE (val:=.pointer (some ⟨w.heap.size,0,none⟩)) (w':=w.alloc (.stringIter ⟨t.toArray⟩ 0)) ?_ (L _ _ _ g1 g2 ⟨rfl,_,gl _ _ _,⟨_,_,rfl⟩,_,e,rfl⟩);simp[execOp,<-eu,run_range_string w ty _ (FM hs)];rfl
theorem a4Q {x:Operand} {d:DS} (hx:bB σ x=some d) (D:a2c H d K=some y): ∃v H',K v H'=some y/\St P ⟨dst,.next x true,ty0,pos,af,g⟩ σ H v H':=by
 unfold a2c at D;split at D<;>try (cases D;done)
 rename_i k;split at D<;>try (cases D;done)
 rename_i vt t n U
 replace D:=bL D
 obtain⟨h0,D⟩:=D;rw[ad0,Bool.not_eq_true'] at h0;obtain⟨h0,a7⟩:=h0;simp_all
 have key: ∀{E c h w u},Conc E c h w->Sub H h->SR c h w u (.c (.ptr k 0))-> ∃b,c.m k=.pointer (some ⟨b,0,none⟩)/\u=.pointer (some ⟨b,0,none⟩)/\w.heap[b]? =some (.stringIter ⟨t.toArray⟩ n.toNat):=by
  intro E c h w u hC F hu;obtain⟨b,hm,e⟩:=F5 (w:=w) F U hu;obtain⟨b',cs,J,e2,M⟩:=hC.obj k _ (F _ _ U);rw[hm] at J;injection J with J;injection J with J;cases J;refine⟨b,hm,e,?_⟩;obtain⟨l,rfl⟩: ∃l:List Value,cs=l.toArray:=⟨cs.toList,by simp⟩
  cases M with
  |cons a M=>cases M with
   |cons Y M=>cases M;have a:=a.2;have Y:=Y.2;subst a;subst Y;exact e2
 cases hc:decide (n<t.length) with
 |false=>
  rw[hc] at D;refine⟨_,_,D,St.val λE c h w a hC F a6=>?_⟩;obtain⟨b,hm,e,O⟩:=key hC F (a6 x (by simp [Op.operands]) _ hx)
  have ah: ¬n.toNat<(⟨t.toArray⟩:ByteArray).size:=by
   have h1: ∀n (m:Nat),¬n<(m:Int)-> ¬n.toNat<m:=λn m h=>by omega
   exact h1 n _ (of_decide_eq_false hc)
  exact⟨_,by simp[execOp,e,Lib.run_next_end_at w b _ _ _ O ah,Sem.run_pure],[.bool false],rfl,.cons rfl .nil⟩
 |true=>
  rw[hc] at D;obtain⟨b,L,D⟩:=at8.1 D;obtain⟨aE,D⟩:=iE D;unfold ag at L;split at L<;>try (cases L;done)
  rename_i ar;obtain⟨ah,a1⟩:=as4.1 L;refine⟨_,_,D,St.put λE c h w a N Q hC F _ hr hN=>?_⟩;obtain⟨q,hm,ex,O⟩:=key hC F (hr x (by simp [Op.operands]) _ hx)
  have hq:Bl c h k q:=⟨⟨_,F _ _ U⟩,by rw[hm];rfl⟩
  have az:=ah;have an:(⟨t.toArray⟩:ByteArray)[n.toNat]'az=b:=a1;have av:=Lib.run_next_ascii_at (P:=P) w q ⟨t.toArray⟩ n.toNat ty0 O az (an▸aE);rw[an,av2 ar] at av;have en:(n+1).toNat=n.toNat+1:=(λ(n:Int) h=>(by omega)) n ar
  obtain⟨g1,g2⟩:=hC.put k (o':=.var a0i [.v .str t,.v (.int .i64) (n+1)]) (c':=c) (h':=bY h k (some (.var a0i [.v .str t,.v (.int .i64) (n+1)]))) (w':=w.iterAt q ⟨t.toArray⟩ (n.toNat+1)) (gl _ _ _) (λj Z=>⟨iG Z,rfl⟩) rfl ⟨rfl,rfl,rfl,by simp [World.iterAt],λj h1 h2=>by
    have Z:q≠j:=λe=>h2 (e▸hq);simp [World.iterAt,Z]⟩ (λb L=>.inl ⟨hq.1,L⟩) (.inl a7) (s:=false) (λq=>by cases q) (λo1 e=>by
   rw[F _ _ U] at e;cases e;exact⟨⟨_,rfl⟩,rfl⟩) λa8=>⟨q,#[.string ⟨t.toArray⟩,.int .i64 (n+1)],hm,by show _=some (Obj.stringIter ⟨t.toArray⟩ (n+1).toNat);rw[en];exact Lib.iterAt_heap w q _ _ _ O,.cons ⟨rfl,rfl⟩ (.cons ⟨rfl,rfl⟩ .nil)⟩
  refine qE (val:=.tuple #[.bool true,.int .i64 n,.int .i32 b.toNat]) (w':=w.iterAt q ⟨t.toArray⟩ (n.toNat+1)) ?_ (hN _ _ _ g1 g2 ⟨[.bool true,.int .i64 n,.int .i32 b.toNat],rfl,.cons rfl (.cons ⟨rfl,rfl⟩ (.cons ⟨rfl,rfl⟩ .nil))⟩);simp[execOp,ex,av,Sem.run_pure]
theorem arv {s:aI} {ow li:Bool} (D:xM P s ow li dst op K=some y): ∃v H',K v H'=some y/\St P ⟨dst,op,ty0,pos,af,g⟩ s.sl s.hp v H':=by
 unfold xM at D;split at D<;>try (cases D;done)
 · obtain⟨v,h1,h2⟩:=eG D;exact⟨v,_,h2,St.val λE c h w a _ _ F=>⟨_,rfl,F _ (by simp [Op.operands]) _ h1⟩⟩
 · obtain⟨v,h1,h2⟩:=eG D;exact⟨v,_,h2,St.val λE c h w a _ _ F=>⟨_,rfl,F _ (by simp [Op.operands]) _ h1⟩⟩
 · obtain⟨v,h1,h2⟩:=eG D;obtain⟨u,J,L⟩:=ao6 h2;exact⟨u,_,J,st1 h1 L (by simp [Op.operands]) λa w z e=>by simp[execOp,Sem.run_bind,e,Result.andThen_ok,Sem.run_pure]⟩
 · obtain⟨v,h1,h2⟩:=eG D;obtain⟨u,J,L⟩:=ajf h2;exact⟨u,_,J,st1 h1 L (by simp [Op.operands]) λa w z e=>by simp[execOp,Sem.run_bind,e,Result.andThen_ok,Sem.run_pure]⟩
 · obtain⟨v,h1,h2⟩:=eG D;obtain⟨v',ah,h2⟩:=eG h2;obtain⟨u,J,L⟩:=aje h2;exact⟨u,_,J,st2 h1 ah L (by simp [Op.operands]) (by simp [Op.operands]) λa w z e=>by simp[execOp,Sem.run_bind,e,Result.andThen_ok,Sem.run_pure]⟩
 · obtain⟨v,h1,h2⟩:=eG D;obtain⟨v',ah,h2⟩:=eG h2;obtain⟨u,J,L⟩:=aq1 h2;refine⟨u,_,J,St.val λE c h w a _ M F=>?_⟩;obtain⟨z,U,O,e3⟩:=L _ _ ⟨c,h,w,M,F _ (by simp [Op.operands]) _ h1,F _ (by simp [Op.operands]) _ ah⟩
   exact⟨z,by simp[execOp,Sem.run_bind,U,O,Result.andThen_ok,Sem.run_pure],e3 c h w⟩
 · obtain⟨v,h1,h2⟩:=eG D;unfold unD at h2;split at h2<;>try (cases h2;done)
   · refine⟨_,_,h2,St.val λE c h w a _ M F=>?_⟩;have e:_=a _:=(F _ (by simp [Op.operands]) _ h1).2
     exact⟨_,by simp [execOp,<-e,Op.unary],rfl,rfl⟩
   · refine⟨_,_,h2,St.val λE c h w a _ M F=>?_⟩;have e:a _=_:=F _ (by simp [Op.operands]) _ h1
     exact⟨_,by simp [execOp,e,Op.unary],rfl⟩
   · obtain⟨J,L⟩:=iE h2;refine⟨_,_,L,St.val λE c h w a _ M F=>?_⟩;have e:_=a _:=(F _ (by simp [Op.operands]) _ h1).2
     exact⟨_,by simp only[execOp,<-e,Op.unary,Op.intArith,Zv J];rfl,rfl,rfl⟩
   · refine⟨_,_,h2,St.val λE c h w a _ M F=>?_⟩;have e:_=a _:=(F _ (by simp [Op.operands]) _ h1).2
     exact⟨_,by simp only[execOp,<-e,Op.unary,intBits_xor];rfl,rfl,rfl⟩
 · obtain⟨v,h1,h2⟩:=eG D;unfold acM at h2;split at h2<;>try (cases h2;done)
   · split at h2<;>try (cases h2;done)
     rename_i k' hk;obtain⟨J,L⟩:=bL h2;obtain⟨d,cx⟩:=au8.1 J;unfold ac6 at hk;split at hk<;>try (cases hk;done)
     rename_i D;cases hk;refine⟨_,_,L,St.val λE c h w a _ M F=>?_⟩;have e:_=a _:=(F _ (by simp [Op.operands]) _ h1).2
     refine⟨_,?_,rfl,rfl⟩;simp[execOp,<-e,convert,Sem.run_bind,run_underlying cx,run_underlying D,Result.andThen_ok];simp [Conv.intToInt]
   · obtain⟨J,L⟩:=bL h2;rw[ad0] at J;refine⟨_,_,L,St.val λE c h w a _ M F=>?_⟩;have e:_=a _:=(F _ (by simp [Op.operands]) _ h1).2
     refine⟨_,?_,rfl,rfl⟩;simp[execOp,<-e,convert,Sem.run_bind,run_underlying (FM J.1),run_underlying (FM J.2),Result.andThen_ok,Sem.run_pure]
 · obtain⟨v,h1,h2⟩:=eG D;split at h2<;>try (cases h2;done)
   obtain⟨J,L⟩:=bL h2;refine⟨_,_,L,St.val λE c h w a _ M F=>?_⟩;have hv:=F _ (by simp [Op.operands]) _ h1
   obtain⟨ad,e⟩:=abc M J hv;exact⟨_,by simp [execOp,e],e▸hv⟩
 · obtain⟨v,h1,h2⟩:=eG D;split at h2<;>try (cases h2;done)
   rename_i off n agg l hf;obtain⟨J,L⟩:=bL h2;rw[ad0,decide_eq_true_eq] at J;obtain⟨fs,d,hu,bb,h5,h6,h7⟩:=ab9 hf;refine⟨_,_,L,St.val λE c h w a _ M F=>?_⟩;obtain⟨vs,e,hv⟩:=F _ (by simp [Op.operands]) _ h1
   refine⟨_,?_,ZB J.1 J.2 hv⟩;have Z:=hv.len;cases agg with
   |true=>simp only[execOp,e,Instr.field,Sem.run_bind,run_underlying hu,Result.andThen_ok,bb,asAgg,Sem.run_pure,part,(rW h6 w).1,if_true,(rW h6 w).2,h5];simp [List.take_drop,Nat.add_sub_cancel_left]
   |false=>
    have h8:n=1:=by simpa using J.1
    subst h8;have b8:off<vs.length:=by omega
    simp[execOp,e,Instr.field,Sem.run_bind,run_underlying hu,Result.andThen_ok,bb,asAgg,Sem.run_pure,part,(rW h6 w).1,h5];simp [b8,List.head?_take,List.head?_drop]
 · obtain⟨v,h1,h2⟩:=eG D;split at h2<;>try (cases h2;done)
   split at h2<;>try (cases h2;done)
   rename_i u hu;refine⟨_,_,h2,St.val λE c h w a _ M F=>?_⟩;obtain⟨vs,e,hv⟩:=F _ (by simp [Op.operands]) _ h1
   obtain⟨z,U,O⟩:=hv.get hu;exact⟨z,by simp [execOp,e,Instr.extract,U],ari O⟩
 · rename_i ty ps;split at D<;>try (cases D;done)
   rename_i l pl z Z c3;split at D<;>try (cases D;done)
   rename_i zs ar;split at D<;>try (cases D;done)
   rename_i r hr;obtain⟨fs,hu,hz,ch⟩:=alO c3;refine⟨_,_,D,St.val λE c h w a _ M F=>?_⟩;obtain⟨zv,aE,a1,_⟩:=Tr hz w;obtain⟨qs,q1,q2⟩:=abu (LW (a:=a) Z λp hp=>F p.2 (by simp [Op.operands];exact⟨p.1,by simpa using hp⟩)) hr
   obtain⟨b4,f1,f2⟩:=Su q1 (cells:=zv.cells) (by rw[aE];exact AG ar) q2
   refine⟨.agg b4,?_,_,by rw[Array.toArray_toList],f2⟩
   have hm:(ps.map λ(i,x)=>(i,a x)).toList=ps.toList.map λp=>(p.1,a p.2):=by simp
   have hg:(λi:Nat=>(pl.toArray[i]? :Option (Nat×Nat)))=λi=>pl[i]? :=by funext i;simp
   simp only[execOp,Instr.build,Sem.run_bind,a1,Result.andThen_ok,run_underlying hu,ch,hm,hg,f1];simp [Result.andThen]
 · obtain⟨v,h1,h2⟩:=eG D;split at h2<;>try (cases h2;done)
   exact am0 h1 (by assumption) (by assumption) h2
 · rename_i ty x0 x1 x2;obtain⟨v,h1,k0⟩:=eG D;obtain⟨v1,k1,k3⟩:=eG k0;obtain⟨v2,k2,h2⟩:=eG k3;split at h2<;>try (cases h2;done)
   obtain⟨J,L⟩:=bL h2;rw[ad0] at J;obtain⟨h5,h6⟩:=iE L;obtain⟨e,n,b,hs⟩:=Tw J.1;obtain⟨inf,z,hu,an,_,av,_⟩:=pd hs;refine⟨_,_,h6,St.val λE c h w a _ M F=>?_⟩;have U:=int_eq (F x1 (by simp [Op.operands]) _ k1)
   have O:=int_eq (F x2 (by simp [Op.operands]) _ k2)
   have hv:=F x0 (by simp [Op.operands]) _ h1
   have c4: ∃ad len cap,a x0=.slice ad len cap:=by
    have h7:=J.2;split at h7<;>try (cases h7;done)
    · obtain⟨_,_,_,e,_⟩:=hv;exact⟨_,_,_,e.symm⟩
    · exact⟨_,_,_,hv⟩
    · obtain⟨_,e⟩:=hv;exact⟨_,_,_,e⟩
   obtain⟨ad,len,cap,e3⟩:=c4;have cp:(sizeOf e).run P w=.ok n w:=by simp [Go.sizeOf,typeInfo,an,av]
   have hb: ∀(kd:IntKind) (q:Nat) (cd:BoundsCode),(Instr.sliceBound (.int kd 0) q cd).run P w=.ok 0 w:=λkd q cd=>by simp [Instr.sliceBound,asIntOf]
   rw[h5.1] at U;rw[h5.2] at O;exact⟨.slice ad 0 0,by simp[execOp,Instr.sliceAt,Sem.run_bind,run_underlying hu,Result.andThen_ok,e3,Instr.slice,Instr.sliceBounds,Option.map_none,at5,Sem.run_pure,cp,if_true,U,O,hb],ad,rfl⟩
 · obtain⟨v,h1,h2⟩:=eG D;obtain⟨v',ah,h2⟩:=eG h2;obtain⟨u,J,L⟩:=anH h2;exact⟨u,_,J,st2 h1 ah L (by simp [Op.operands]) (by simp [Op.operands]) λa w z e=>by simp[execOp,Sem.run_bind,e,Result.andThen_ok,Sem.run_pure]⟩
 · rename_i x0 x1 x2;obtain⟨v,h1,h2⟩:=eG D;obtain⟨v1,k1,J⟩:=eG h2;obtain⟨v2,k2,L⟩:=eG J
   have key: ∀{b:Bool},(∀c h w u,SR c h w u v->u=.bool b)->K (if b then v1 else v2) s.hp=some y-> ∃v H',K v H'=some y/\St P ⟨dst,.pick x0 x1 x2,ty0,pos,af,g⟩ s.sl s.hp v H':=λ{b} hb hk=>
    ⟨_,_,hk,St.val λE c h w a _ M F=>⟨if b then a x1 else a x2,by simp [execOp,hb c h w _ (F _ (by simp [Op.operands]) _ h1),asBool],by
     split
     · exact F _ (by simp [Op.operands]) _ k1
     · exact F _ (by simp [Op.operands]) _ k2⟩⟩
   split at L<;>try (cases L;done)
   · split at L
     · exact key (b:=true) (λ_ _ _ _ e=>e) L
     · exact key (b:=false) (λ_ _ _ _ e=>e) L
   · rename_i b;refine key (b:=b) (λ_ _ _ _ e=>e.2.symm) ?_;cases b<;>exact L
 · obtain⟨v,h1,h2⟩:=eG D;split at h2<;>try (cases h2;done)
   rename_i u hu hn;unfold Z0 at hn;split at hn<;>try (cases hn;done)
   rename_i dd ca b2;refine⟨_,_,h2,St.val λE c h w a _ M F=>⟨_,?_,rfl,rfl⟩⟩;have e:=sc (F _ (by simp [Op.operands]) _ h1) hu
   simp only[execOp,e,Instr.makeInterface,Sem.run_bind,run_underlying b2,Result.andThen_ok];cases dd<;>first |rfl |exact(ca _ b2).elim
 · rename_i f fs cs;split at D<;>try (cases D;done)
   rename_i A B hA hB;refine⟨_,_,D,St.val λE c h w a _ M F=>⟨.func (.func f) (fs.map a) (cs.map a),by simp [execOp,Instr.makeFunc],fs.toList.map a,cs.toList.map a,by cases fs;cases cs;simp,?_⟩⟩
   exact⟨SB hA λx hx=>F x (by simp [Op.operands];exact .inl (by simpa using hx)),SB hB λx hx=>F x (by simp [Op.operands];exact .inr (by simpa using hx))⟩
 · split at D<;>try (cases D;done)
   rename_i d z hz;split at D<;>try (cases D;done)
   rename_i l Z;obtain⟨h1,h2⟩:=bL D;rw[ad0,Bool.not_eq_true'] at h1;obtain⟨h0,h1⟩:=h1;refine⟨_,_,h2,St.put λE c h w a N Q hC M hf F Y=>?_⟩;obtain⟨zv,aE,a1,_⟩:=Tr hz w;obtain⟨c',g1,g2,g3⟩:=hC.newVar (hf (FN h1)) (a0z h1) _ h0 (AG (c:=c) (h:=h) (w:=w) Z);refine qE ?_ (Y _ _ c' g1 g2 g3);have e:zv.cells=z.toArray:=by rw[<-aE]
   simp [execOp,Instr.alloc,a1,Go.newVar,newRow,newObj,Sem.run,e]
 · split at D<;>try (cases D;done)
   rename_i d v hv;split at D<;>try (cases D;done)
   rename_i l Z;obtain⟨h1,h2⟩:=bL D;rw[ad0,Bool.not_eq_true'] at h1;obtain⟨h0,h1⟩:=h1;refine⟨_,_,h2,St.put λE c h w a N Q hC M hf F Y=>?_⟩;obtain⟨c',g1,g2,g3⟩:=hC.newVar (hf (FN h1)) (a0z h1) _ h0 (v7 (F _ (by simp [Op.operands]) _ hv) Z)
   exact qE (by simp [execOp,Instr.box,Go.newVar,newRow,newObj,Sem.run]) (Y _ _ c' g1 g2 g3)
 · obtain⟨v,h1,h2⟩:=eG D;obtain⟨v',ah,h2⟩:=eG h2;exact amO h1 ah h2
 · obtain⟨v,h1,h2⟩:=eG D;obtain⟨v',ah,J⟩:=eG h2;split at J<;>try (cases J;done)
   rename_i d e n b k1 m k2 m' hs;split at J<;>try (cases J;done)
   rename_i t ht;split at J<;>try (cases J;done)
   rename_i q hq;obtain⟨L,h5⟩:=bL J;simp[ad0,decide_eq_true_eq,beq_iff_eq] at L;obtain⟨rfl,hb⟩:=L;obtain⟨⟨h6,h7,h8⟩,h9⟩:=iE h5;obtain⟨a7,b5⟩:=bL h9;obtain⟨m,rfl⟩: ∃j:Nat,m=(j:Int):=⟨Int.toNat m,(av2 h7).symm⟩;refine⟨_,_,b5,St.put λE c h w a N Q hC M hf F Y=>?_⟩;obtain⟨inf,z,hu,an,hz,av,a8,ar,az⟩:=pd hs;have U:=int_eq (F _ (by simp [Op.operands]) _ h1)
   have O:=int_eq (F _ (by simp [Op.operands]) _ ah)
   rw[<-h6] at O;have h8:m<=1000000000:=aw5.1 h8;have b6:(inf.bytes:Int)*(m:Int)<=281474976710656:=by rw[a8];have h1:((b*m:Nat):Int)<=((1000*1000000000:Nat):Int):=aw5.2 (Nat.mul_le_mul hb h8);rw[Int.natCast_mul] at h1;omega
   have hr:=run_make (P:=P) w _ e inf z hu an hz k1 k2 m m (by omega) (Int.le_refl _) b6 (by omega)
   simp only[ae9] at hr Y⊢;have a6:=PY (Zt (c:=c) (h:=h) (w:=w) hq an hz) m;have e3:(madeCells z.cells (m*inf.size)).toList=(List.replicate m z.cells.toList).flatten:=by rw[<-Qs (by omega),ar,av];simp [madeCells,ar]
   rw[<-e3] at a6;have b9:(madeCells z.cells (m*inf.size)).toList.length=m*wid t:=by rw[a6.len,hJ,ax2]
   have cc:dZ (w.alloc (.cells (madeCells z.cells (m*inf.size)) e)) e (wid t) (.slice (some ⟨w.heap.size,0,none⟩) m m) m (madeCells z.cells (m*inf.size)).toList:=by
    have:=dZ.lit w (e:=e) b9 (by unfold maxLen;omega)
    rwa [Array.toArray_toList] at this
   obtain⟨c',g1,g2,g3⟩:=hC.newRow (k:=d) (t:=t) (l:=List.replicate m q) (hf (FN a7)) (a0z a7) az (ER w _) (by rw[ax2];exact cc) (λb q=>by rw[ue q];exact ab8 _) a6
   exact qE (by simp only[execOp,U,O,Sem.run_bind,hr,Result.andThen_ok,Sem.run_pure]) (Y _ _ c' g1 g2 g3)
 · rename_i ty len ps;split at D<;>try (cases D;done)
   rename_i l e n b Z hs;obtain⟨inf,z,hu,an,hz,av,a8,ar,az⟩:=pd hs;have bx: ∀{c:Cx} {h:Hp} {w:World} {a:Act},(∀x∈(Op.buildSlice ty len ps).operands,∀d,bB s.sl x=some d->SR c h w (a.eval x) d)->ay (λp q=>p.1=q.1/\SR c h w p.2 q.2) (ps.toList.map λp=>(p.1,a.eval p.2)) l:=λF=>LW Z λp hp=>F p.2 (by simp [Op.operands];exact⟨p.1,by simpa using hp⟩)
   have cj:(Op.buildSlice ty len ps)=.buildSlice ty len ps.toList.toArray:=by simp
   rw[cj] at*
   have rows: ∀{t:Ty} {rows:List (den t)},Gg t 0 l=some rows->rows.length=len->wid t=n->len*n<=16777216-> ∀{c:Cx} {h:Hp} {w:World} {a:Act},(∀x∈(Op.buildSlice ty len ps.toList.toArray).operands,∀d,bB s.sl x=some d->SR c h w (a.eval x) d)->
     ∃cs:List Value,ay (CR c h w) cs (aT t rows)/\(execOp a.eval ⟨dst,.buildSlice ty len ps.toList.toArray,ty0,pos,af,g⟩).run P w=.ok (.value (.slice (some ⟨w.heap.size,0,none⟩) len len)) (w.alloc (.cells cs.toArray e)):=by
    intro t rows hr h1 h2 J c h w a F;subst h1;subst h2;obtain⟨qs,q1,q2⟩:=aa6 (pre:=[]) (LW (a:=a.eval) (c:=c) (h:=h) (w:=w) Z λp hp=>F p.2 (by simp [Op.operands];exact⟨p.1,by simpa using hp⟩)) hr
    obtain⟨cs,f1,f2⟩:=Ta (P:=P) (dst:=dst) (ty0:=ty0) (pos:=pos) (af:=af) (g:=g) (w:=w) hs J (Q:=λv x=>x=.dead\/CR c h w v x) (q1.mono λp q b0=>⟨b0.1,b0.2.mono λ_ _=>.inr⟩) (λv=>.inl rfl) (by simpa[aT] using q2)
    refine⟨cs,ay.of f1.len λi u x hu hx=>?_,f2⟩;obtain⟨u',U,O⟩:=f1.get hx;rw[hu] at U;cases U;rcases O with rfl |O
    · obtain⟨_,_,e3⟩:=uy _ _ (List.mem_of_getElem? hx);cases e3
    · exact O
   have mx: ∀{m:Nat},m*n<=16777216->m<=maxLen:=λ{m} h=>by have:m*1<=m*n:=Nat.mul_le_mul_left _ az;unfold maxLen;omega
   split at D
   · rename_i v;split at D<;>try (cases D;done)
     rename_i cs b7;split at D<;>try (cases D;done)
     rename_i q hq;obtain⟨h1,h2⟩:=bL D;simp only[ad0,Nat.ble_eq] at h1;have J:=al2 h1.1.1;have L:=al2 h1.1.2;subst J;subst L;refine⟨_,_,h2,λE c h w a N Q hC M _ F Y=>?_⟩;rw[bC.self M] at Y;have Z:=bx F;cases hp:ps.toList.map λp=>(p.1,a.eval p.2) with
     |nil=>rw[hp] at Z;cases Z
     |cons p0 pr=>
      rw[hp] at Z;cases Z with
      |cons g1 gt=>
       cases gt;have g2:=v7 g1.2 b7
       obtain⟨us,f1,f2⟩:=Ta (P:=P) (dst:=dst) (ty0:=ty0) (pos:=pos) (af:=af) (g:=g) (w:=w) (a:=a.eval) (parts:=ps.toList) hs (len:=1) (by omega) (Q:=λv x=>x=.dead\/CR c h w v x) (ps:=[(0,cs)]) (r:=cs) (by
        rw[hp];exact .cons ⟨g1.1,g2.mono λ_ _=>.inr⟩ .nil) (λv=>.inl rfl) (by
        unfold oe oe;simp [eo,Tc hq])
       obtain⟨k1,k2⟩:=hC.Gw (ER w (.cells us.toArray e)) (λb i=>c.A b i\/b=w.heap.size) (λb i q=>.inl q) λb i q=>q.imp id λq=>⟨Nat.le_of_eq q.symm,by rw[q];simp⟩
       have bp:ay (CR c h w) us cs:=ay.of f1.len λi u x hu hx=>by
        obtain⟨u',U,O⟩:=f1.get hx;rw[hu] at U;cases U;rcases O with rfl |O
        · obtain⟨u2,_,e3⟩:=g2.get hx
          exact absurd hq (by
           have: ∀(l:List DC) q,DC.dead∈l->uv l≠some q:=λl=>by
            induction l with
            |nil=>intro q hm;cases hm
            |cons x r ih=>
             intro q hm e;unfold uv at e;split at e<;>try (cases e;done)
             rename_i U O;rcases ai3.1 hm with hm |hm
             · subst hm;cases U
             · exact ih _ hm O
           exact this _ _ (List.mem_of_getElem? hx))
        · exact O
       refine qE f2 (Y _ _ _ k1 k2 ⟨_,_,_,rfl,ab8 _,by unfold maxLen;omega,λi x hx=>?_⟩)
       have hi:i<us.length:=by rw[bp.len,<-Tc hq];exact(as4.1 hx).1
       refine⟨us[i],⟨.inr rfl,?_⟩,?_⟩
       · rw[Nat.zero_add,cell_of (heap_alloc_new w _)];simp [hi]
       · have:=ab5 hq bp i us[i] x (ae6 hi) hx;cases x with
         |v t x=>exact⟨this.1,this.2.mono k2.cell t λ_ _ q=>q⟩
         |nil=>exact this
   · split at D
     · refine⟨_,_,D,λE c h w a N Q hC M _ F Y=>?_⟩;rw[bC.self M] at Y;have Z:=bx F;obtain⟨us,f1,f2⟩:=Ta (P:=P) (dst:=dst) (ty0:=ty0) (pos:=pos) (af:=af) (g:=g) (w:=w) (a:=a.eval) (parts:=ps.toList) hs (len:=0) (by omega) (Q:=λv x=>True) (ps:=[]) (r:=[]) (by generalize ps.toList.map (λp=>(p.1,a.eval p.2))=q at Z⊢;cases Z;exact .nil) (λv=>trivial) (by simp [oe])
       obtain⟨k1,k2⟩:=hC.same (ER w (.cells us.toArray e));exact qE f2 (Y _ _ c k1 k2 ⟨_,rfl⟩)
     · split at D<;>try (cases D;done)
       rename_i t ht;split at D<;>try (cases D;done)
       rename_i b3 b1;obtain⟨h1,h2⟩:=bL D;simp only[ad0,decide_eq_true_eq,beq_iff_eq] at h1;obtain⟨⟨J,L⟩,h5⟩:=h1;split at h2<;>try (cases h2;done)
       · refine⟨_,_,h2,λE c h w a N Q hC M _ F Y=>?_⟩;rw[bC.self M] at Y;obtain⟨us,f1,f2⟩:=rows b1 J L h5 F;obtain⟨c',k1,k2,k3⟩:=hC.frozen (ER w (.cells us.toArray e)) (t:=t) (l:=b3) (by rw[J];exact dZ.lit w (by rw[f1.len,hJ,J]) (mx h5)) (λb q=>by rw[ue q];exact ab8 _) f1
         exact qE f2 (Y _ _ c' k1 k2 k3)
       · rename_i d _;obtain⟨h6,h7⟩:=bL h2;refine⟨_,_,h7,St.put λE c h w a N Q hC M hf F Y=>?_⟩;obtain⟨us,f1,f2⟩:=rows b1 J L h5 F;obtain⟨c',k1,k2,k3⟩:=hC.newRow (k:=d) (hf (FN h6)) (a0z h6) (by omega) (ER w (.cells us.toArray e)) (t:=t) (l:=b3) (by rw[J];exact dZ.lit w (by rw[f1.len,hJ,J]) (mx h5)) (λb q=>by rw[ue q];exact ab8 _) f1
         exact qE f2 (Y _ _ c' k1 k2 k3)
 · obtain⟨v,h1,h2⟩:=eG D;obtain⟨u,J,L⟩:=aqz (ty0:=ty0) h2;exact⟨u,_,J,st1 h1 L (by simp [Op.operands,Call.operands]) λa w z e=>by simp only[execOp,resolve,invoke,builtin,Sem.run_bind,Sem.run_pure,Result.andThen_ok,List.map_toArray,aw6,List.map_nil,e]⟩
 · obtain⟨h0,h1⟩:=bL D;have h0:=of_decide_eq_true h0;subst h0;obtain⟨v,h1,h2⟩:=eG h1;obtain⟨v',ah,h2⟩:=eG h2;exact amw h1 ah h2
 · obtain⟨v,h1,h2⟩:=eG D;exact an8 h1 h2
 rotate_left 2
 · obtain⟨v,h1,h2⟩:=eG D;cases dst with
   |none=>cases h2
   |some d=>exact a4F h1 h2
 · obtain⟨v,h1,h2⟩:=eG D;exact a4Q h1 h2
 all_goals
  split at D<;>try (cases D;done)
  rename_i hx hy;refine⟨_,_,D,St.val λE c h w a _ M F=>?_⟩;have U:=int_eq (F _ (by simp [Op.operands,Call.operands]) _ hx)
  have O:=int_eq (F _ (by simp [Op.operands,Call.operands]) _ hy)
  first
   |exact⟨_,by simp [execOp,resolve,invoke,builtin,Builtin.max_,Builtin.max2,U,O];rfl,rfl,rfl⟩
   |exact⟨_,by simp [execOp,resolve,invoke,builtin,Builtin.min_,Builtin.min2,U,O];rfl,rfl,rfl⟩
end
inductive Sh where
 |dead
 |v (t:Ty)
 |kb (b:Bool)
 |nil
 |np
 |z
 |mu (f:Nat)
 |own (k:Nat)
 |ptr (k i:Nat)
 |el (t:Ty) (j:Nat)
 |OK (k j:Nat)
 |nC (k:Nat)
 |OD (k j:Nat)
inductive SS where
 |c (x:Sh)
 |agg (l:List Sh)
 |fn (f:Nat) (a b:List Sh)
 |st (t:Ty)
inductive SO where
 |var (ty:TypeId) (l:List Sh)
 |row (ty:TypeId) (t:Ty)
 |st (ty:TypeId) (t:Ty)
 |bI (ty:TypeId) (t:Ty) (l:List Sh)
structure Shape where
 sl:List (Nat×SS)
 hp:List (Nat×SO)
@[reducible] def VC (X:Type):Sh->Type
 |.v t=>den t×X
 |.el t _=>den t×X
 |.OK _ _=>Nat×X
 |.nC _=>Nat×X
 |_=>X
@[reducible] def VL (X:Type):List Sh->Type
 |[]=>X
 |s::r=>VC (VL X r) s
@[reducible] def VS (X:Type):SS->Type
 |.c x=>VC X x
 |.agg l=>VL X l
 |.fn _ a b=>VL (VL X b) a
 |.st t=>den t×X
@[reducible] def p4 (X:Type):List (Nat×SS)->Type
 |[]=>X
 |p::r=>VS (p4 X r) p.2
@[reducible] def VO (X:Type):SO->Type
 |.var _ l=>VL X l
 |.row _ t=>List (den t)×X
 |.st _ t=>den t×X
 |.bI _ t l=>Bool×(List (den t)×VL X l)
@[reducible] def VH (X:Type):List (Nat×SO)->Type
 |[]=>X
 |p::r=>VO (VH X r) p.2
@[reducible] def cv (sh:Shape):Type:=p4 (VH Unit sh.hp) sh.sl
def mkC {X:Type}:(s:Sh)->VC X s->DC×X
 |.dead,x=>(.dead,x)
 |.v t,x=>(.v t x.1,x.2)
 |.kb b,x=>(.kb b,x)
 |.nil,x=>(.nil,x)
 |.np,x=>(.np,x)
 |.z,x=>(.z,x)
 |.mu f,x=>(.mu f,x)
 |.own k,x=>(.ow k 0 .all,x)
 |.ptr k i,x=>(.ptr k i,x)
 |.el t j,x=>(.el t x.1 j,x.2)
 |.OK k j,x=>(.ow k 0 (.el x.1 j),x.2)
 |.nC k,x=>(.ow k 0 (.nC x.1),x.2)
 |.OD k j,x=>(.ow k 0 (.s9 j),x)
def mkL {X:Type}:(l:List Sh)->VL X l->List DC×X
 |[],x=>([],x)
 |s::r,x=>((mkC s x).1::(mkL r (mkC s x).2).1,(mkL r (mkC s x).2).2)
def mkS {X:Type}:(s:SS)->VS X s->DS×X
 |.c s,x=>(.c (mkC s x).1,(mkC s x).2)
 |.agg l,x=>(.agg (mkL l x).1,(mkL l x).2)
 |.fn f a b,x=>(.fn (.func f) (mkL a x).1 (mkL b (mkL a x).2).1,(mkL b (mkL a x).2).2)
 |.st t,x=>(.agg (cA t x.1),x.2)
def mkSl {X:Type}:(l:List (Nat×SS))->p4 X l->cG×X
 |[],x=>([],x)
 |p::r,x=>((p.1,(mkS p.2 x).1)::(mkSl r (mkS p.2 x).2).1,(mkSl r (mkS p.2 x).2).2)
def mkO {X:Type}:(s:SO)->VO X s->aX×X
 |.var ty l,x=>(.var ty (mkL l x).1,(mkL l x).2)
 |.row ty t,x=>(.row [] ty t x.1,x.2)
 |.st ty t,x=>(.var ty (cA t x.1),x.2)
 |.bI ty t l,x=>(.bI [] ty t x.1 x.2.1 (mkL l x.2.2).1,(mkL l x.2.2).2)
def mkH {X:Type}:(l:List (Nat×SO))->VH X l->aG×X
 |[],x=>([],x)
 |p::r,x=>((p.1,(mkO p.2 x).1)::(mkH r (mkO p.2 x).2).1,(mkH r (mkO p.2 x).2).2)
def mkD (sh:Shape) (x:cv sh):aI:=⟨(mkSl sh.sl x).1,(mkH sh.hp (mkSl sh.sl x).2).1⟩
def eC (ks:List Nat) (k:Nat):Bool:=match ks with|[]=>false |q::r=>Nat.beq q k||eC r k
def nD:List Nat->Bool
 |[]=>true
 |k::r=> !eC r k&&nD r
def tb (ks:List Nat):Sh->Bool
 |.own k=>eC ks k
 |.ptr k _=>eC ks k
 |.OK k _=>eC ks k
 |.nC k=>eC ks k
 |.OD k _=>eC ks k
 |_=>true
def H6 (ks:List Nat):SS->Bool
 |.c s=>tb ks s
 |.agg l=>l.all (tb ks)
 |.fn _ a b=>a.all (tb ks)&&b.all (tb ks)
 |.st _=>true
def ON (ks:List Nat):SO->Bool
 |.var _ l=>l.all (tb ks)
 |.bI _ _ l=>l.all (tb ks)
 |_=>true
def Bb (sh:Shape):Bool:=nD (sh.hp.map (·.1))&&sh.sl.all (λp=>H6 (sh.hp.map (·.1)) p.2)&&sh.hp.all (λp=>ON (sh.hp.map (·.1)) p.2)
section
variable (eq:Nat->Nat->Bool) (H:aG)
def Gk (k g:Nat):Bool:=(rowAt H k g).isSome
abbrev PC:=(X:Type)->(s:Sh)->DC->X->Option (VC X s)
def uo (X:Type):(s:Sh)->DC->X->Option (VC X s)
 |.dead,_,x=>some x
 |.v t,c,x=>match lE t with
  |true=>match rC t c with|some q=>some (q,x) |none=>none
  |false=>none
 |.kb true,.kb true,x=>some x
 |.kb false,.kb false,x=>some x
 |.nil,.nil,x=>some x
 |.np,.np,x=>some x
 |.z,.z,x=>some x
 |.z,.nil,x=>some x
 |.mu f,.mu J,x=>match Nat.beq f J with|true=>some x |false=>none
 |.own k,.ow D g .all,x=>match eq k D&&Gk H D g with|true=>some x |false=>none
 |.ptr k i,.ptr D L,x=>match eq k D&&Nat.beq i L with|true=>some x |_=>none
 |.el t j,.el M q F,x=>match mT M t,Nat.beq j F with|some h,true=>some (h.down▸q,x) |_,_=>none
 |.OK k j,.ow D g (.el i F),x=>match eq k D&&Gk H D g&&Nat.beq j F with|true=>some (i,x) |_=>none
 |.nC k,.ow D g (.nC i),x=>match eq k D&&Gk H D g with|true=>some (i,x) |_=>none
 |.OD k j,.ow D g (.s9 F),x=>match eq k D&&Gk H D g&&Nat.beq j F with|true=>some x |_=>none
 |_,_,_=>none
variable {X:Type} (pc:PC) (jn:(t:Ty)->List DC->Option (den t))
def um:(l:List Sh)->List DC->X->Option (VL X l)
 |[],[],x=>some x
 |s::r,c::q,x=>match um r q x with|some y=>pc _ s c y |none=>none
 |_,_,_=>none
def T0:(s:SS)->DS->X->Option (VS X s)
 |.c s,.c c,x=>pc X s c x
 |.agg l,.agg q,x=>um pc l q x
 |.fn f a b,.fn (.func D) u w,x=>match Nat.beq f D with
  |true=>match um pc b w x with|some y=>um pc a u y |none=>none
  |false=>none
 |.st t,.agg q,x=>match jn t q with|some v=>some (v,x) |none=>none
 |_,_,_=>none
def AJ (s:cG):(l:List (Nat×SS))->X->Option (p4 X l)
 |[],x=>some x
 |p::r,x=>match AJ s r x with|some y=>T0 pc jn p.2 (bU s p.1) y |none=>none
def T1:(s:SO)->aX->X->Option (VO X s)
 |.var ty l,.var D q,x=>match Nat.beq ty D with|true=>um pc l q x |false=>none
 |.row ty t,.row _ D F l,x=>match Nat.beq ty D,mT F t with|true,some h=>some (h.down▸l,x) |_,_=>none
 |.st ty t,.var D q,x=>match Nat.beq ty D,qQ t q with|true,some v=>some (v,x) |_,_=>none
 |.bI ty t l,.bI _ D F e q last,x=>match Nat.beq ty D,mT F t,um pc l last x with|true,some h,some y=>some (e,h.down▸q,y) |_,_,_=>none
 |_,_,_=>none
def MU (fnd:Nat->Option aX):(l:List (Nat×SO))->X->Option (VH X l)
 |[],x=>some x
 |p::r,x=>match MU fnd r x with
  |some y=>match fnd p.1 with|some o=>T1 pc p.2 o y |none=>none
  |none=>none
end
def proj (eq:Nat->Nat->Bool) (fnd:Nat->Option aX) (sh:Shape) (s:aI):Option (cv sh):=
 match MU (uo eq s.hp) fnd sh.hp () with|some y=>AJ (uo eq s.hp) qQ s.sl sh.sl y |none=>none
inductive nG:aX->aX->Prop where
 |row {o o':aX} {hs:List (Option Nat)} {ty:TypeId} {wd:Nat} (h:cU o=some (hs,ty,wd)) (h':cU o'=some ([],ty,wd)) (hl:bc o'=bc o):nG o o'
 |var (ty:TypeId) (l l':List DC):nG (.var ty l) (.var ty l')
structure adx (eq:Nat->Nat->Bool) (ks:List Nat) (c:Cx) (h:Hp) (w:World) (c':Cx) (h':Hp):Prop where
 key: ∀k k',eq k k'=true->eC ks k=true-> ∃o o',h k'=some o/\h' k=some o'/\nG o o'/\c'.m k=c.m k'
 cell:uC c.A w c'.A w
section
variable {X:Type} {eq:Nat->Nat->Bool} {ks:List Nat} {c c':Cx} {H:aG} {h h':Hp} {w:World}
theorem ZN (ah:Sub H h) (hR:adx eq ks c h w c' h') {s:Sh} {d:DC} {x:X} {v:VC X s} (hc:tb ks s=true) (hp:uo eq H X s d x=some v):(∀u,CR c h w u d->CR c' h' w u (mkC s v).1)/\(mkC s v).2=x:=by
 have now: ∀{k F g:Nat} {p:PK},eq k F=true->Gk H F g=true->eC ks k=true-> ∀u,CR c h w u (.ow F g p)->CR c' h' w u (.ow k 0 p):=by
  intro k F g p h1 h2 h3 u hu;obtain⟨o,ho⟩:=au8.1 h2;obtain⟨hs,ty,wd,hr,hm⟩:=iJ (w:=w) (H:=H) ah ho hu;obtain⟨o1,o',L,N,O,U⟩:=hR.key k F h1 h3;rw[ah _ _ (jG ho).1] at L;cases L;cases O with
  |var=>cases hr
  |row J h5 M=>rw[hr] at J;injection J with J;simp[Prod.mk.injEq] at J;obtain⟨_,rfl,rfl⟩:=J;exact⟨hu.1,o',N,some (bc o'),by simp [cD,h5],_,_,_,h5,λm Y=>by injection Y with Y;subst Y;exact⟨ab8 _,λ_=>by rw[U,M];exact hm⟩⟩
 unfold uo at hp;split at hp<;>first |(cases hp;done) |skip
 · cases hp;exact⟨λu hu=>CR.one hu,rfl⟩
 · split at hp<;>try (cases hp;done)
   split at hp<;>try (cases hp;done)
   rename_i hs _ q hq;cases hp;exact⟨λu hu=>by obtain⟨h1,h2⟩:=uf hs hq hu;exact⟨h1,h2.mono hR.cell _ λ_ _ h=>h⟩,rfl⟩
 all_goals try (cases hp;exact⟨λu hu=>hu,rfl⟩)
 · cases hp;exact⟨λu hu=>⟨none,hu⟩,rfl⟩
 all_goals
  split at hp<;>try (cases hp;done)
  cases hp
 · rename_i hf;rw[al2 hf];exact⟨λu hu=>hu,rfl⟩
 · rename_i D;rw[ad0] at D;exact⟨now D.1 D.2 hc,rfl⟩
 · rename_i k i F i' _ D;rw[ad0] at D;obtain rfl:=al2 D.2;refine⟨λu hu=>⟨hu.1,?_⟩,rfl⟩;obtain⟨o,o',L,N,O,U⟩:=hR.key k F D.1 hc;obtain⟨o2,Z,M⟩:=hu.2;rw[L] at Z;cases Z;refine⟨o',N,?_⟩;cases O with
   |row h1 h2=>obtain⟨⟨_,_,rfl⟩,_⟩:=M;cases h1
   |var ty l l'=>exact⟨⟨_,_,rfl⟩,by rw[U];exact M.2⟩
 · rename_i e _ hj;obtain⟨e⟩:=e;subst e;obtain rfl:=al2 hj;exact⟨λu ⟨b,o,h1,h2⟩=>⟨b,o,h1,h2.mono hR.cell _ λi v q=>hR.cell _ _ _ q.1 q.2⟩,rfl⟩
 · rename_i D;rw[ad0,ad0] at D;obtain rfl:=al2 D.2;exact⟨now D.1.1 D.1.2 hc,rfl⟩
 · rename_i D;rw[ad0] at D;exact⟨now D.1 D.2 hc,rfl⟩
 · rename_i D;rw[ad0,ad0] at D;obtain rfl:=al2 D.2;exact⟨now D.1.1 D.1.2 hc,rfl⟩
theorem anl {s:Sh} {d:DC} {x:X} {v:VC X s} (hp:uo eq H X s d x=some v):(mkC s v).2=x:=by
 unfold uo at hp;split at hp<;>first |(cases hp;done) |(cases hp;rfl) |skip
 all_goals
  split at hp<;>try (cases hp;done)
  first
   |(cases hp;rfl)
   |(split at hp<;>first |(cases hp;done) |(cases hp;rfl))
end
section
variable {pc:PC} {jn:(t:Ty)->List DC->Option (den t)} {Q Q':Value->DC->Prop} {ks:List Nat} (hpc: ∀(X:Type) (s:Sh) (d:DC) (x:X) (v:VC X s),tb ks s=true->pc X s d x=some v->(∀u,Q u d->Q' u (mkC s v).1)/\(mkC s v).2=x)
include hpc
theorem Ag {X:Type}: ∀{l:List Sh} {q:List DC} {x:X} {v:VL X l},l.all (tb ks)=true->um pc l q x=some v->(∀us,ay Q us q->ay Q' us (mkL l v).1)/\(mkL l v).2=x
 |[],[],x,v,_,h=>by cases h;exact⟨λus hu=>by cases hu;exact .nil,rfl⟩
 |[],_::_,_,_,_,h=>nomatch h
 |_::_,[],_,_,_,h=>nomatch h
 |s::r,d::q,x,v,hc,h=>by
  unfold um at h;rw[at1,ad0] at hc;split at h<;>try (cases h;done)
  obtain⟨h1,h2⟩:=hpc _ _ _ _ _ hc.1 h;obtain⟨D,F⟩:=Ag hc.2 (by omega)
  show(∀us,_->ay Q' us ((mkC s v).1::(mkL r (mkC s v).2).1))/\(mkL r (mkC s v).2).2=x;rw[h2];exact⟨λus hu=>by cases hu with|cons a b=>exact .cons (h1 _ a) (D _ b),F⟩
theorem aoN {X:Type} {s:SO} {o:aX} {x:X} {v:VO X s} (hv: ∀u t d,Q u (.v t d)->Q' u (.v t d)) (O: ∀t q d us,qQ t q=some d->ay Q us q->ay Q' us (cA t d)) (hc:ON ks s=true) (h:T1 pc s o x=some v):(nG o (mkO s v).1/\ ∀us,ay Q us (dM o)->ay Q' us (dM (mkO s v).1))/\(mkO s v).2=x:=by
 have fl: ∀{t:Ty} {l:List (den t)} {us:List Value},ay Q us (aT t l)->ay Q' us (aT t l):=λ{t l us} hu=>ay.of hu.len λi u x h1 h2=>by obtain⟨u',F,Z⟩:=hu.get h2;rw[h1] at F;cases F;obtain⟨t',Y,rfl⟩:=uy _ _ (List.mem_of_getElem? h2);grind
 unfold T1 at h;split at h<;>try (cases h;done)
 · split at h<;>try (cases h;done)
   rename_i D;obtain rfl:=al2 D;obtain⟨h1,h2⟩:=Ag hpc hc h;exact⟨⟨.var _ _ _,h1⟩,h2⟩
 · split at h<;>try (cases h;done)
   rename_i _ _ e D _;obtain rfl:=al2 D;obtain⟨e⟩:=e;subst e;cases h;exact⟨⟨.row rfl rfl rfl,λus hu=>fl hu⟩,rfl⟩
 · split at h<;>try (cases h;done)
   rename_i D N;obtain rfl:=al2 D;cases h;exact⟨⟨.var _ _ _,λus hu=>O _ _ _ _ N hu⟩,rfl⟩
 · split at h<;>try (cases h;done)
   rename_i M q last _ _ _ e _ D _ U;obtain rfl:=al2 D;obtain⟨e⟩:=e;subst e;cases h;obtain⟨h1,h2⟩:=Ag hpc hc U;refine⟨⟨.row rfl rfl rfl,λus hu=>?_⟩,h2⟩;cases M with
   |true=>have hu:=hu;cases hu;exact .nil
   |false=>have hu:ay Q us (aT _ q++last):=hu;have J:=hu.take (aT _ q).length;have L:=hu.drop (aT _ q).length;rw[List.take_left] at J;rw[List.drop_left] at L;rw[<-as0 (aT _ q).length us];exact(fl J).app (h1 _ L)
theorem R4 {X:Type} {fnd:Nat->Option aX} (F: ∀u t d,Q u (.v t d)->Q' u (.v t d)) (D: ∀t q d us,qQ t q=some d->ay Q us q->ay Q' us (cA t d)): ∀{l:List (Nat×SO)} {x:X} {v:VH X l},l.all (λp=>ON ks p.2)=true->MU pc fnd l x=some v->
  ((∀k o',aj (mkH l v).1 k=some o'-> ∃o,fnd k=some o/\nG o o'/\ ∀us,ay Q us (dM o)->ay Q' us (dM o'))/\ ∀k,eC (l.map (·.1)) k=true->(aj (mkH l v).1 k).isSome=true)/\(mkH l v).2=x
 |[],x,v,_,h=>by cases h;exact⟨⟨λk o' h=>(by cases h),λk h=>(by cases h)⟩,rfl⟩
 |p::r,x,v,hc,h=>by
  unfold MU at h;rw[at1,ad0] at hc;split at h<;>try (cases h;done)
  rename_i y L;split at h<;>try (cases h;done)
  rename_i o U;obtain⟨h1,h2⟩:=aoN hpc F D hc.1 h;obtain⟨⟨M,N⟩,J⟩:=R4 F D hc.2 L;show((∀k o',aj ((p.1,(mkO p.2 v).1)::(mkH r (mkO p.2 v).2).1) k=some o'->_)/\ ∀k,_->(aj ((p.1,(mkO p.2 v).1)::(mkH r (mkO p.2 v).2).1) k).isSome=true)/\(mkH r (mkO p.2 v).2).2=x;rw[h2];refine⟨⟨λk o' e=>?_,λk hk=>?_⟩,J⟩
  · grind[aj]
  · unfold aj;split
    · rfl
    · rename_i O;have hk:(Nat.beq p.1 k||eC (r.map (·.1)) k)=true:=hk
      simp_all
theorem aoM {X:Type} {c c':Cx} {h h':Hp} {w w':World} (D: ∀u x,CR c h w u x->Q u x) (F: ∀u x,Q' u x->CR c' h' w' u x) (M: ∀t q d us,jn t q=some d->ay Q us q->ay Q' us (cA t d)) {s:SS} {d:DS} {x:X} {v:VS X s} (hc:H6 ks s=true) (hp:T0 pc jn s d x=some v):(∀u,SR c h w u d->SR c' h' w' u (mkS s v).1)/\(mkS s v).2=x:=by
 unfold T0 at hp;split at hp<;>try (cases hp;done)
 · obtain⟨h1,h2⟩:=hpc _ _ _ _ _ hc hp;exact⟨λu hu=>F _ _ (h1 u (D _ _ hu)),h2⟩
 · obtain⟨h1,h2⟩:=Ag hpc hc hp;exact⟨λu ⟨vs,e,hu⟩=>⟨vs,e,(h1 vs (hu.mono D)).mono F⟩,h2⟩
 · split at hp<;>try (cases hp;done)
   rename_i hf;split at hp<;>try (cases hp;done)
   rename_i y O;unfold H6 at hc;rw[ad0] at hc;obtain rfl:=al2 hf;obtain⟨h1,h2⟩:=Ag hpc hc.1 hp;obtain⟨J,L⟩:=Ag hpc hc.2 O;rename_i f a b u w _ _;show(∀u,_->SR c' h' w' u (.fn (.func f) (mkL a v).1 (mkL b (mkL a v).2).1))/\(mkL b (mkL a v).2).2=x;rw[h2];exact⟨λz ⟨vs,us,e,g1,g2⟩=>⟨vs,us,e,(h1 _ (g1.mono D)).mono F,(J _ (g2.mono D)).mono F⟩,L⟩
 · split at hp<;>try (cases hp;done)
   rename_i v N;cases hp;exact⟨λu ⟨vs,e,hu⟩=>⟨vs,e,(M _ _ _ _ N (hu.mono D)).mono F⟩,rfl⟩
theorem Rn {X:Type} {c c':Cx} {h h':Hp} {w w':World} (F: ∀u x,CR c h w u x->Q u x) (J: ∀u x,Q' u x->CR c' h' w' u x) (D: ∀t q d us,jn t q=some d->ay Q us q->ay Q' us (cA t d)) {s:cG}: ∀{l:List (Nat×SS)} {x:X} {v:p4 X l},l.all (λp=>H6 ks p.2)=true->AJ pc jn s l x=some v->
  (∀t u,SR c h w u (bU s t)->SR c' h' w' u (bU (mkSl l v).1 t))/\(mkSl l v).2=x
 |[],x,v,_,hp=>by cases hp;exact⟨λt u _=>trivial,rfl⟩
 |p::r,x,v,hc,hp=>by
  unfold AJ at hp;rw[at1,ad0] at hc;split at hp<;>try (cases hp;done)
  rename_i y M;obtain⟨h1,h2⟩:=aoM hpc F J D hc.1 hp;obtain⟨N,L⟩:=Rn F J D hc.2 M;show(∀t u,_->SR c' h' w' u (bU ((p.1,(mkS p.2 v).1)::(mkSl r (mkS p.2 v).2).1) t))/\(mkSl r (mkS p.2 v).2).2=x;rw[h2];refine⟨λt u hu=>?_,L⟩;unfold bU;split
  · grind
  · grind
end
def Told (n:Nat) (E:cQ) (σ:Nat->DS) (h:Hp) (a:Act) (w:World):Prop:=(∃c,Conc E c h w/\ ∀t,SR c h w (a.tmps.getD t undef) (σ t))/\a.tmps.size=n/\a.defers=E.df
def fH (s D:aI):Prop:= ∀(E:cQ) (c:Cx) (w:World) (u:Nat->Value),Conc E c (aj s.hp) w->(∀t,SR c (aj s.hp) w (u t) (bU s.sl t))-> ∃c',Conc E c' (aj D.hp) w/\ ∀t,SR c' (aj D.hp) w (u t) (bU D.sl t)
theorem fH.refl (s:aI):fH s s:=λE c w u h1 h2=>⟨c,h1,h2⟩
theorem fH.trans {s D F:aI} (h:fH s D) (h':fH D F):fH s F:=λE c w u h1 h2=>by obtain⟨c',J,L⟩:=h E c w u h1 h2;exact h' E c' w u J L
theorem fH.told {s D:aI} (hw:fH s D) {n:Nat} {E:cQ} {a:Act} {w:World} (h:Told n E (bU s.sl) (aj s.hp) a w):Told n E (bU D.sl) (aj D.hp) a w:=by obtain⟨⟨c,h1,h2⟩,F,J⟩:=h;exact⟨hw E c w _ h1 h2,F,J⟩
theorem nG.obj {c c':Cx} {h h':Hp} {w:World} {k J:Nat} {o o':aX} (hs:nG o o') (hm:c'.m J=c.m k) (hc: ∀us,ay (CR c h w) us (dM o)->ay (CR c' h' w) us (dM o')) (F:nz c h w k o):nz c' h' w J o':=by
 cases hs with
 |var ty l O=>obtain⟨b,cs,h1,h2,D⟩:=F;exact⟨b,cs,hm.trans h1,h2,hc _ D⟩
 |row h1 h2 D=>
  obtain⟨N,xs,L,M⟩:=F.row h1;cases o' with
  |var=>cases h2
  |_=>exact⟨_,_,_,xs,h2,N,by rw[hm,D];exact L,hc _ M⟩
theorem nG.pl {o o':aX} {m:Value} (hs:nG o o'):PL m o m o':=by
 unfold PL;cases hs with
 |var=>exact⟨⟨_,rfl⟩,rfl⟩
 |row h1 h2 D=>grind
section
variable {sh:Shape} {s:aI} {v:cv sh} {eq:Nat->Nat->Bool} {fnd:Nat->Option aX}
theorem ZG (h:Bb sh=true):sh.sl.all (λp=>H6 (sh.hp.map (·.1)) p.2)=true/\sh.hp.all (λp=>ON (sh.hp.map (·.1)) p.2)=true:=by grind[Bb]
theorem abd {h:Hp} (ah:Sub s.hp h) (ho:Bb sh=true) (hp:proj eq fnd sh s=some v) (hf: ∀k o,fnd k=some o-> ∃D,h D=some o/\ ∀q,eC (sh.hp.map (·.1)) k=true->eq k q=true->q=D) {c c':Cx} {w:World} (hm: ∀k D,eC (sh.hp.map (·.1)) k=true->eq k D=true->c'.m k=c.m D) (hA:uC c.A w c'.A w):
  (∀k o',aj (mkD sh v).hp k=some o'-> ∃o,fnd k=some o/\nG o o'/\ ∀us,ay (CR c h w) us (dM o)->ay (CR c' (aj (mkD sh v).hp) w) us (dM o'))/\(∀k,eC (sh.hp.map (·.1)) k=true->(aj (mkD sh v).hp k).isSome=true)/\
  ∀t u,SR c h w u (bU s.sl t)->SR c' (aj (mkD sh v).hp) w u (bU (mkD sh v).sl t):=by
 obtain⟨h1,h2⟩:=ZG ho;unfold proj at hp;split at hp<;>try (cases hp;done)
 rename_i y U;obtain⟨⟨f1,f2⟩,_⟩:=R4 (Q:=λ_ _=>True) (Q':=λ_ _=>True) (ks:=sh.hp.map (·.1)) (λX Y d x v _ hp=>⟨λ_ _=>trivial,anl hp⟩) (λ_ _ _ _=>trivial) (λt q d us N hu=>by obtain⟨l1,e,F⟩:=FL (Q:=λ_ _=>True) (Q':=λ_ _=>True) (λ_ _ _ _ _ _ _=>trivial) t (Fl N);rw[ag5] at e;subst e;exact F us hu) h2 U
 have hR:adx eq (sh.hp.map (·.1)) c h w c' (aj (mkH sh.hp y).1):=⟨λk D F J=>by obtain⟨o',L⟩:=au8.1 (f2 k J);obtain⟨o,M,Z,_⟩:=f1 k o' L;obtain⟨k2,e4,e5⟩:=hf k o M;obtain rfl:=e5 D J F;exact⟨o,o',e4,L,Z,hm k D J F⟩,hA⟩
 have hpc:=λ(X:Type) Y d x v hc (hp:uo eq s.hp X Y d x=some v)=>ZN ah hR hc hp;have O: ∀t q d us,qQ t q=some d->ay (CR c h w) us q->ay (CR c' (aj (mkH sh.hp y).1) w) us (cA t d):=λt q d us N hu=>ay.of (by rw[(Am N hu).len]) λi u x F J=>by obtain⟨u',L,M⟩:=(Am N hu).get J;rw[F] at L;cases L;obtain⟨t',d',rfl⟩:=M6 _ _ _ (List.mem_of_getElem? J);exact⟨M.1,M.2.mono hA _ λ_ _ h=>h⟩
 obtain⟨⟨g1,g2⟩,_⟩:=R4 hpc (λu t d hu=>⟨hu.1,hu.2.mono hA _ λ_ _ h=>h⟩) O h2 U;obtain⟨g3,g4⟩:=Rn hpc (λ_ _ h=>h) (λ_ _ h=>h) O h1 hp;have e:(mkD sh v).hp=(mkH sh.hp y).1:=by show(mkH sh.hp (mkSl sh.sl v).2).1=_;rw[g4]
 rw[e];exact⟨g1,g2,g3⟩
def asa (x:Nat) (sh:Shape) (s:aI):Bool:=s.hp.all λp=>Nat.blt p.1 1000||a0c p.1||eC (x::sh.hp.map (·.1)) p.1
def MT (x:Nat) (sh:Shape) (s:aI):Option (cv sh):=match Bb sh&&asa x sh s with|true=>proj Nat.beq (aj s.hp) sh s |false=>none
def qO (sh:Shape) (s:aI):Option (cv sh):=MT 0 sh s
theorem Ah: ∀{H:aG} {k:Nat} {o:aX},aj H k=some o->(k,o)∈H
 |(q,u)::H,k,o,e=>by
  unfold aj at e;split at e
  · grind
  · exact as3 _ (Ah e)
def Gp (x:Nat) (s D:aI):Prop:= ∀(E:cQ) (c:Cx) (h:Hp) (w:World) (u:Nat->Value),E.H x=none->Conc E c h w->Sub s.hp h->(∀k,h k≠none->aj s.hp k=none->k<1000)->(∀t,SR c h w (u t) (bU s.sl t))-> ∃c',Conc E c' (aj D.hp) w/\ ∀t,SR c' (aj D.hp) w (u t) (bU D.sl t)
theorem ZM {x:Nat} {sh:Shape} {s:aI} {v:cv sh} (h:MT x sh s=some v):Gp x s (mkD sh v):=by
 unfold MT at h;split at h<;>try (cases h;done)
 rename_i D;rw[ad0] at D;intro E c h0 w u Y hC L hex hu;obtain⟨h1,h2,h3⟩:=abd L D.1 h (λk o e=>⟨k,L k o e,λq _ hq=>(al2 hq).symm⟩) (c:=c) (c':=c) (w:=w) (λk k' _ e=>by rw[al2 e]) λ_ _ _ h1 h2=>⟨h1,h2⟩
 refine⟨c,hC.A9 (λk o' e=>?_) (λ_ _ h=>h) (λ_ _ h=>.inl h) λk o e=>?_,λt=>h3 t _ (hu t)⟩
 · obtain⟨o,M,N,F⟩:=h1 k o' e;exact⟨N.obj rfl F (hC.obj k o (L k o M)),λb D=>⟨⟨o,L k o M⟩,D⟩⟩
 · obtain⟨hk,Z,M,N⟩:=hC.fV k o e
   have O:aj s.hp k=some Z:=by
    cases q:aj s.hp k with
    |none=>grind
    |some o2=>grind
   have:=ao3.1 D.2 (k,Z) (Ah O);rw[at3] at this;have J:=this.resolve_left λq=>by rw[at3,a2F,Nat.blt_eq] at q;omega
   have J:(Nat.beq x k||eC (sh.hp.map (·.1)) k)=true:=J
   rw[at3] at J;obtain⟨o',F⟩:=au8.1 (h2 k (J.resolve_left λq=>by rw[al2 q,e] at Y;cases Y))
   obtain⟨o2,U,e5,_⟩:=h1 k o' F;rw[O] at U;cases U;exact⟨o',F,N.trans e5.pl⟩
def so (s D:aI):Prop:=Gp 0 s D
theorem acZ {E:cQ} {c:Cx} {h:Hp} {w:World} (hC:Conc E c h w):E.H 0=none:=by
 cases e:E.H 0 with
 |none=>rfl
 |some o=>have:=(hC.fV 0 o e).1;omega
theorem so.A9 {s D:aI} (h:so s D):fH s D:=λE c w u h1 h2=>h E c _ w u (acZ h1) h1 (λ_ _ h=>h) (λk h1 h2=>(h1 h2).elim) h2
theorem tN {sh:Shape} {s:aI} {v:cv sh} (h:qO sh s=some v):so s (mkD sh v):=ZM h
end
def sw (f:DC->DC):DS->DS
 |.dead=>.dead
 |.c x=>.c (f x)
 |.agg l=>.agg (l.map f)
 |.fk l=>.fk (l.map λ|.inl x=>.inl (f x) |.inr q=>.inr (q.map f))
 |.fn g a b=>.fn g (a.map f) (b.map f)
def uE (f:DC->DC):aX->aX
 |.var ty l=>.var ty (l.map f)
 |.row hs e t l=>.row hs e t l
 |.bI hs e t b l q=>.bI hs e t b l (q.map f)
theorem apx (f:DC->DC) (s:cG) (t:Nat):bU (s.map λp=>(p.1,sw f p.2)) t=sw f (bU s t):=by
 induction s with
 |nil=>rfl
 |cons p r D=>
  obtain⟨q,x⟩:=p;show(if q=t then sw f x else bU (r.map _) t)=sw f (if q=t then x else bU r t)
  grind
theorem abg {f:DC->DC} {c c':Cx} {h h':Hp} {w w':World} (hf: ∀u x,CR c h w u x->CR c' h' w' u (f x)) {u:Value} {d:DS} (hu:SR c h w u d):SR c' h' w' u (sw f d):=by
 cases d with
 |dead=>trivial
 |c x=>exact hf _ _ hu
 |agg l=>obtain⟨vs,e,h1⟩:=hu;exact⟨vs,e,h1.imp hf⟩
 |fk l=>
  obtain⟨vs,e,h1⟩:=hu;refine⟨vs,e,h1.imp λv x D=>?_⟩;cases x with
  |inl x=>exact hf _ _ D
  |inr q=>obtain⟨vs,e,h1⟩:=D;exact⟨vs,e,h1.imp hf⟩
 |fn g a b=>obtain⟨vs,us,e,h1,h2⟩:=hu;exact⟨vs,us,e,h1.imp hf,h2.imp hf⟩
def si (k:Nat) (f:DC->DC):aG->aG
 |[]=>[]
 |(q,o)::s=>if q=k then si k f s else(q,uE f o)::si k f s
theorem YN (r:Nat) (o:aX) (s:aG) (q:Nat):aj ((r,o)::s) q=if r=q then some o else aj s q:=rfl
theorem z8 (k:Nat) (f:DC->DC): ∀(s:aG) (q:Nat),aj (si k f s) q=if q=k then none else(aj s q).map (uE f)
 |[],q=>by simp [si,aj]
 |(r,o)::s,q=>by
  unfold si;rw[YN];by_cases e:r=k
  · rw[if_pos e,z8 k f s q];by_cases D:q=k
    · grind
    · grind
  · rw[if_neg e,YN];by_cases D:r=q
    · grind
    · rw[if_neg D,if_neg D];exact z8 k f s q
def free (k:Nat):Bool:=Nat.blt k 1000||Nat.ble 5000 k
theorem a5a {k:Nat} (h:free k=true):a0c k=false:=by unfold free at h;simp[Nat.blt_eq] at h;exact a3J (by omega)
theorem aas {E:cQ} {c:Cx} {h:Hp} {w:World} (hC:Conc E c h w) {k:Nat} (hk:free k=true):E.H k=none:=by
 cases D:E.H k with
 |none=>rfl
 |some o=>have:=(hC.fV k o D).1;unfold free at hk;simp[Nat.blt_eq] at hk;omega
theorem S9 (f:DC->DC) (m:Value) (o:aX):PL m o m (uE f o)/\cU (uE f o)=cU o/\bc (uE f o)=bc o:=by cases o<;>exact⟨by first |exact⟨⟨_,rfl⟩,rfl⟩ |exact⟨_,rfl,.inl ⟨rfl,rfl⟩⟩,rfl,rfl⟩
theorem Ym {k:Nat} {s:aI} {o:aX} {f:DC->DC} (ho:aj s.hp k=some o) (hk:free k=true) (U: ∀t d,f (.v t d)=.v t d)
  (hf: ∀(E:cQ) c w,Conc E c (aj s.hp) w-> ∀c' h',c'.m=c.m->(∀b i,c'.A b i<->c.A b i\/dS (c.m k)=some b)->(∀q o,q≠k->aj s.hp q=some o-> ∃o',h' q=some o'/\cU o'=cU o/\bc o'=bc o/\(∀ty l,o=.var ty l-> ∃l',o'=.var ty l'))-> ∀u x,CR c (aj s.hp) w u x->CR c' h' w u (f x)):
  fH s ⟨s.sl.map λp=>(p.1,sw f p.2),si k f s.hp⟩:=by
 intro E c w u hC hu;have L: ∀u x,CR c (aj s.hp) w u x->CR ⟨c.m,λb i=>c.A b i\/dS (c.m k)=some b⟩ (aj (si k f s.hp)) w u (f x):=hf E c w hC _ _ rfl (λ_ _=>Iff.rfl) λq D hq e=>⟨uE f D,by rw[z8,if_neg hq,e];rfl,(S9 f default D).2.1,(S9 f default D).2.2,λty l e=>⟨l.map f,by rw[e];rfl⟩⟩
 refine⟨⟨c.m,λb i=>c.A b i\/dS (c.m k)=some b⟩,hC.A9 (λq o' e=>?_) (λ_ _ h=>.inl h) (λb i h=>h.imp id λh=>⟨k,⟨⟨o,ho⟩,h⟩,by rw[z8,if_pos rfl],a5a hk⟩) λq D e=>?_,λt=>by rw[apx];exact abg L (hu t)⟩
 · rw[z8] at e;split at e<;>try (cases e;done)
   obtain⟨D,J,N⟩:=Option.map_eq_some_iff.1 e;subst N;have h1:=hC.obj q D J;refine⟨?_,λb hb=>⟨⟨D,J⟩,hb⟩⟩;cases D with
   |var ty l=>obtain⟨b,cs,g1,g2,g3⟩:=h1;exact⟨b,cs,g1,g2,g3.imp L⟩
   |row hs F t l=>
    obtain⟨h0,xs,g1,g2⟩:=h1.row rfl;refine⟨_,_,_,xs,rfl,h0,g1,?_⟩;have:=g2.imp L
    rwa [show(dM (.row hs F t l)).map f=dM (.row hs F t l) from(av9 λx O=>by obtain⟨t,d,rfl⟩:=uy _ _ O;exact U t d).trans (List.map_id _)] at this
   |bI hs F t b l M=>
    obtain⟨h0,xs,g1,g2⟩:=h1.row rfl;refine⟨_,_,_,xs,rfl,h0,g1,?_⟩;have:=g2.imp L;have Z:(aT t l).map f=aT t l:=(av9 λx O=>by obtain⟨t,d,rfl⟩:=uy _ _ O;exact U t d).trans (List.map_id _)
    cases b with
    |true=>exact this
    |false=>rwa [show(dM (.bI hs F t false l M)).map f=dM (uE f (.bI hs F t false l M)) by show(aT t l++M).map f=aT t l++M.map f;rw[ag9,Z]] at this
 · obtain⟨_,Y,J,N⟩:=hC.fV q D e;have ah:q≠k:=λh=>by subst h;rw[aas hC hk] at e;cases e
   exact⟨uE f Y,by rw[z8,if_neg ah,J];rfl,N.trans (S9 f _ Y).1⟩
theorem Ab {c c':Cx} {h h':Hp} {w:World} {k:Nat} (hm:c'.m=c.m) (hA: ∀b i,c.A b i->c'.A b i) (Y: ∀q o,q≠k->h q=some o-> ∃o',h' q=some o'/\cU o'=cU o/\bc o'=bc o/\ ∀ty l,o=.var ty l-> ∃M,o'=.var ty M) {u:Value} {x:DC} (F: ∀g p i,x≠.ow k g p/\x≠.ptr k i) (hu:CR c h w u x):CR c' h' w u x:=by
 have hc:uC c.A w c'.A w:=λb i v h1 h2=>⟨hA _ _ h1,h2⟩;cases x with
 |ow q g p=>
  obtain⟨h1,o,e,n,h2,D⟩:=hu;obtain⟨o',J,N,O,_⟩:=Y q o (λe=>by subst e;exact(F g p 0).1 rfl) e
  exact⟨h1,o',J,n,by unfold cD at h2⊢;rw[N,O];exact h2,by unfold Rw at D⊢;rw[N,O,hm];exact D⟩
 |ptr q i=>
  obtain⟨h1,o,e,⟨ty,l,Z⟩,h2⟩:=hu;obtain⟨o',J,_,_,e4⟩:=Y q o (λe=>by subst e;exact(F 0 .all i).2 rfl) e
  obtain⟨M,e5⟩:=e4 ty l Z;exact⟨h1,o',J,⟨ty,M,e5⟩,by rw[hm];exact h2⟩
 |v t d=>exact⟨hu.1,hu.2.mono hc _ λ_ _ h=>h⟩
 |el t d j=>obtain⟨b,o,h1,h2⟩:=hu;exact⟨b,o,h1,h2.mono hc _ λi v q=>hc _ _ _ q.1 q.2⟩
 |Bj l=>
  obtain⟨b,o,cap,h1,h2,D,h4⟩:=hu;refine⟨b,o,cap,h1,h2,D,λi x F=>?_⟩;obtain⟨v,U,L⟩:=h4 i x F;refine⟨v,hc _ _ _ U.1 U.2,?_⟩;cases x with
  |v t d=>exact⟨L.1,L.2.mono hc _ λ_ _ h=>h⟩
  |nil=>exact L
 |_=>exact hu
def VI (k g:Nat) (t:Ty) (l:List (den t)):DC->DC
 |.ow q D p=>if q=k then(match p,Nat.beq D g with|.all,true=>.v (.sl t) l |_,_=>.dead) else .ow q D p
 |.ptr q i=>if q=k then .dead else .ptr q i
 |x=>x
def ac8 (k:Nat) (H:aG):Option (Nat×(t:Ty)×List (den t)):=
 match aj H k with
 |some (.row hs _ t l)=>some (hs.length,⟨t,l⟩)
 |some (.bI hs _ t e l last)=>match pF (lV Nt t last) with
  |some x=>some (hs.length,⟨t,cond e [] (l++[x])⟩)
  |none=>none
 |_=>none
def Us (k:Nat) (s:aI):Option aI:=
 match free k,ac8 k s.hp with
 |true,some (g,⟨t,l⟩)=>some ⟨s.sl.map λp=>(p.1,sw (VI k g t l) p.2),si k (VI k g t l) s.hp⟩
 |_,_=>none
theorem aqM {k:Nat} {s s':aI} (h:Us k s=some s'):fH s s':=by
 unfold Us at h;split at h<;>try (cases h;done)
 rename_i g t l hk D;cases h
 have key: ∃o hs ty,aj s.hp k=some o/\cU o=some (hs,ty,wid t)/\hs.length=g/\bc o=l.length/\ ∀c h w us,ay (CR c h w) us (dM o)->ay (CR c h w) us (aT t l):=by
  unfold ac8 at D;split at D<;>try (cases D;done)
  · rename_i J;injection D with D;injection D with L F;injection F with F O;subst L;subst F;obtain rfl:=eq_of_heq O;exact⟨_,_,_,J,rfl,rfl,rfl,λc h w us hu=>hu⟩
  · rename_i b N last J;split at D<;>try (cases D;done)
    rename_i x hx;injection D with D;injection D with L F;injection F with F O;subst L;subst F;obtain rfl:=eq_of_heq O;refine⟨_,_,_,J,rfl,rfl,by cases b<;>simp [bc],λc h w us hu=>?_⟩
    cases b with
    |true=>exact hu
    |false=>have hu:ay (CR c h w) us (aT _ N++last):=hu;show ay _ _ (aT _ (N++[x]));rw[qu];have ha:=hu.take (aT _ N).length;have Y:=hu.drop (aT _ N).length;rw[List.take_left] at ha;rw[List.drop_left] at Y;rw[<-as0 (aT _ N).length us];exact ha.app (by simpa[aT] using ace hx Y)
 obtain⟨o,hs,ty,J,hr,rfl,hlen,ah⟩:=key;refine Ym J hk (λ_ _=>rfl) λE c w hC c' h' hm hA Z u x hu=>?_;have U:=λb i q=>(hA b i).2 (.inl q);unfold VI;split
 · rename_i q g' p;split
   · rename_i M;subst M;split
     · rename_i hg;obtain rfl:=al2 hg;obtain⟨_,o1,L,n,F,ar,av,wd,O,e4⟩:=hu;rw[J] at L;cases L;have:cD o hs.length=some (some (bc o)):=by simp [cD,hr]
       rw[this] at F;cases F;have e5:=(e4 _ rfl).2 rfl;obtain⟨_,xs,g1,g2⟩:=(hC.obj q o J).row hr;rw[hlen] at g1;rw[e5];have an:uC c.A w c'.A w:=λb i v h1 h2=>⟨U _ _ h1,h2⟩;refine R9 (c:=c') (h:=h') g1 (ay.of (ah _ _ _ _ g2).len λi u x h1 h2=>?_) λb i Y=>(hA b i).2 (.inr Y);obtain⟨u',f1,f2⟩:=(ah _ _ _ _ g2).get h2;rw[h1] at f1;cases f1;obtain⟨t',d',rfl⟩:=uy _ _ (List.mem_of_getElem? h2);exact⟨f2.1,f2.2.mono an _ λ_ _ h=>h⟩
     · exact CR.one hu
   · rename_i M;exact Ab hm U Z (λ_ _ _=>⟨λe=>by injection e with e;exact M e,λe=>by cases e⟩) hu
 · rename_i q i;split
   · exact CR.one hu
   · rename_i M;exact Ab hm U Z (λ_ _ _=>⟨λe=>(by grind),λe=>by injection e with e;exact M e⟩) hu
 · rename_i h1 h2;exact Ab hm U Z (λ_ _ _=>⟨h1 _ _ _,h2 _ _⟩) hu
def VG (k:Nat) (t:Ty) (d:den t):DC->DC
 |.ptr q i=>if q=k then(if i=0 then .v (.ptr t) d else .el t d i) else .ptr q i
 |.ow q g p=>if q=k then .dead else .ow q g p
 |x=>x
def Ur (k:Nat) (t:Ty) (s:aI):Option aI:=
 match free k,aj s.hp k with
 |true,some (.var D l)=>match qQ t l,Nat.beq D a0i with
  |some d,false=>some ⟨s.sl.map λp=>(p.1,sw (VG k t d) p.2),si k (VG k t d) s.hp⟩
  |_,_=>none
 |_,_=>none
theorem aqL {k:Nat} {t:Ty} {s U:aI} (h:Ur k t s=some U):fH s U:=by
 unfold Ur at h;split at h<;>try (cases h;done)
 rename_i ty l hk M;split at h<;>try (cases h;done)
 rename_i d Z h0;cases h;refine Ym M hk (λ_ _=>rfl) λE c w hC c' h' hm hA J u x hu=>?_;have F:=λb i q=>(hA b i).2 (.inl q);unfold VG;split
 · rename_i q i;split
   · rename_i D;subst D;obtain⟨_,o1,e1,_,b,L,rfl⟩:=hu;obtain⟨b',cs,g1,g2,g3⟩:=hC.obj q _ M;rw[a0G h0] at g2;rw[L] at g1;injection g1 with g1;injection g1 with g1;cases g1;have Y:uC c.A w c'.A w:=λb i v h1 h2=>⟨F _ _ h1,h2⟩;have N:TR c'.A w t (Fz c'.A w b 0) d:=(CG.tr (c:=c) (h:=aj s.hp) t).1 (CG.of (Am Z g3) (g:=λi v=>w.cell? ⟨b,0+i,none⟩=some v) λi v O=>by rw[cell_of g2];grind)|>.mono Y _ λi v O=>⟨(hA b _).2 (.inr (L▸rfl)),O⟩
     split
     · rename_i hi;subst hi;exact⟨rfl,b,0,rfl,N⟩
     · exact⟨b,0,by rw[Nat.zero_add],N⟩
   · rename_i D;exact Ab hm F J (λ_ _ _=>⟨λe=>(by grind),λe=>by injection e with e;exact D e⟩) hu
 · rename_i q g p;split
   · exact CR.one hu
   · rename_i D;exact Ab hm F J (λ_ _ _=>⟨λe=>by injection e with e;exact D e,λe=>by cases e⟩) hu
 · rename_i h1 h2;exact Ab hm F J (λ_ _ _=>⟨h2 _ _ _,h1 _ _⟩) hu
def Gy:aX->Bool
 |.row [] _ t []=>Nat.blt 0 (wid t)
 |.bI [] _ t true [] _=>Nat.blt 0 (wid t)
 |_=>false
theorem Tm {E:cQ} {c:Cx} {h:Hp} {w:World} {k:Nat} {o:aX} (hC:Conc E c h w) (hk:h k=none) (L:a0c k=false) (D:Gy o=true) (a:Option Addr): ∃c',Conc E c' (bY h k (some o)) w/\eN c h w c' (bY h k (some o)) w/\CR c' (bY h k (some o)) w (.slice a 0 0) (.ow k 0 .all):=by
 have key: ∃ty n,cU o=some ([],ty,n)/\0<n/\bc o=0/\dM o=[]:=by unfold Gy at D;split at D<;>first |(cases D;done) |(rw[Nat.blt_eq] at D;exact⟨_,_,rfl,D,rfl,rfl⟩)
 obtain⟨ty,n,h1,h2,F,J⟩:=key;obtain⟨c',g1,g2,g3,_⟩:=hC.setRow (k:=k) h1 h2 (v':=.slice a 0 0) (Ext.refl _ _) (λb q=>by rw[Ub] at q;cases q) (s:=false) (λq=>by cases q) L (λM q=>by rw[hk] at q;cases q) (xs:=[]) (.inl ⟨a,rfl,F,rfl⟩) (J▸.nil)
 grind
def M5 (i:Nat):aX->Option DC
 |.var _ l=>l[i]?
 |.bI _ _ _ _ _ q=>q[i]?
 |_=>none
def Bc (i:Nat) (x:DC):aX->aX
 |.var ty l=>.var ty (l.set i x)
 |.bI hs e t b l q=>.bI hs e t b l (q.set i x)
 |o=>o
theorem ay.set {α β:Type} {R:α->β->Prop} {us:List α} {l:List β} (h:ay R us l): ∀{i:Nat} {x x':β},l[i]? =some x->(∀u,R u x->R u x')->ay R us (l.set i x'):=by
 induction h with
 |nil=>grind
 |cons h t F=>
  intro i x x' e D;cases i with
  |zero=>cases e;exact .cons (D _ h) t
  |succ i=>exact .cons h (F e D)
theorem aa4 {R:Value->DC->Prop} {i:Nat} {x x':DC} {o:aX} (D:M5 i o=some x) (L: ∀u,R u x->R u x') {us:List Value} (hu:ay R us (dM o)):ay R us (dM (Bc i x' o)):=by
 cases o with
 |row=>cases D
 |var ty l=>exact hu.set D L
 |bI hs e t b l q=>
  cases b with
  |true=>exact hu
  |false=>have hu:ay R us (aT t l++q):=hu;have F:=hu.take (aT t l).length;have J:=hu.drop (aT t l).length;rw[List.take_left] at F;rw[List.drop_left] at J;rw[<-as0 (aT t l).length us];exact F.app (J.set D L)
theorem Conc.recell {E:cQ} {c:Cx} {h:Hp} {w:World} (hC:Conc E c h w) {q:Nat} {o o':aX} (D:h q=some o) (M:(∃hs e t b l r J,o=.bI hs e t b l r/\o'=.bI hs e t b l J)\/ ∃ty l F,o=.var ty l/\o'=.var ty F) (hc: ∀us,ay (CR c h w) us (dM o)->ay (CR c h w) us (dM o')):Conc E c (bY h q (some o')) w/\eN c h w c (bY h q (some o')) w:=by
 refine hC.put q (o':=o') (gl _ _ _) (λj O=>⟨iG O,rfl⟩) rfl (Ext.refl _ _) (λb N=>.inl ⟨⟨o,D⟩,N⟩) (.inr rfl) (s:=false) (λq=>by cases q) (λU e=>?_) λL=>?_
 · rw[D] at e;cases e;rcases M with⟨hs,e,t,b,l,r,J,rfl,rfl⟩ |⟨ty,l,F,rfl,rfl⟩
   · exact⟨_,rfl,.inl ⟨λ_ _ h=>h,.inl ⟨rfl,rfl⟩⟩⟩
   · exact⟨⟨_,rfl⟩,rfl⟩
 · have h1:=hC.obj q o D;rcases M with⟨hs,e,t,b,l,r,J,rfl,rfl⟩ |⟨ty,l,F,rfl,rfl⟩
   · obtain⟨h0,xs,g1,g2⟩:=h1.row rfl;exact⟨_,_,_,xs,rfl,h0,g1,(hc _ g2).mono λ_ _=>CR.fL L⟩
   · obtain⟨b,cs,g1,g2,g3⟩:=h1;exact⟨b,cs,g1,g2,(hc _ g3).mono λ_ _=>CR.fL L⟩
theorem Yw {i:Nat} {x x':DC} {o:aX} (D:M5 i o=some x):(∃hs e t b l r J,o=.bI hs e t b l r/\Bc i x' o=.bI hs e t b l J)\/ ∃ty l F,o=.var ty l/\Bc i x' o=.var ty F:=by
 cases o with
 |row=>cases D
 |var ty l=>exact .inr ⟨_,_,_,rfl,rfl⟩
 |bI=>exact .inl ⟨_,_,_,_,_,_,_,rfl,rfl⟩
def rcC:Sh->DC->DC
 |.v t,x=>match lE t,rC t x with|true,some d=>.v t d |_,_=>x
 |.dead,_=>.dead
 |_,x=>x
def OA:List Sh->List DC->List DC
 |s::r,x::q=>rcC s x::OA r q
 |_,q=>q
theorem ab1 {c:Cx} {h:Hp} {w:World}: ∀(l:List Sh) {q:List DC} {us:List Value},ay (CR c h w) us q->ay (CR c h w) us (OA l q)
 |[],_,_,hu=>hu
 |s::r,_,_,.nil=>.nil
 |s::r,_,_,.cons h1 D=>.cons (by
  unfold rcC;split
  · split
    · exact uf (by omega) (by omega) h1
    · omega
  · exact CR.one h1
  · exact h1) (ab1 r D)
inductive Gh where
 |ba (k:Nat)
 |dz (q k:Nat) (o:aX)
 |da (q i k:Nat) (o:aX)
 |vk (k:Nat) (t:Ty)
 |VD (k:Nat) (l:List Sh)
 |oG (k:Nat) (o:aX)
def Cl:Gh->aI->Option aI
 |.ba k,s=>Us k s
 |.vk k t,s=>Ur k t s
 |.oG k o,s=>match kt s.hp k&&Gy o with|true=>some ⟨s.sl,oset s.hp k o⟩ |false=>none
 |.dz q k o,s=>match kt s.hp k&&Gy o&&OE (bU s.sl q) with|true=>some ⟨oy s.sl q (.c (.ow k 0 .all)),oset s.hp k o⟩ |false=>none
 |.da q i k o,s=>match kt s.hp k&&Gy o,aj s.hp q with
  |true,some D=>match M5 i D with
   |some .nil=>some ⟨s.sl,oset (oset s.hp k o) q (Bc i (.ow k 0 .all) D)⟩
   |_=>none
  |_,_=>none
 |.VD k l,s=>match aj s.hp k with
  |some (.var ty q)=>some ⟨s.sl,oset s.hp k (.var ty (OA l q))⟩
  |_=>none
theorem arF {g:Gh} {s N:aI} (h:Cl g s=some N):fH s N:=by
 cases g with
 |ba k=>exact aqM h
 |vk k t=>exact aqL h
 |oG k o=>
  simp[Cl] at h;split at h<;>try (cases h;done)
  rename_i D;rw[ad0] at D;cases h;intro E c w u hC hu;obtain⟨c',g1,g2,_⟩:=Tm hC (FN D.1) (a0z D.1) D.2 none;rw[<-jh] at g1 g2;exact⟨c',g1,λt=>(hu t).fL g2⟩
 |dz q k o=>
  simp[Cl] at h;split at h<;>try (cases h;done)
  rename_i D;rw[ad0,ad0] at D;cases h;intro E c w u hC hu;obtain⟨a,O⟩:=TH D.2 (hu q);obtain⟨c',g1,g2,g3⟩:=Tm hC (FN D.1.1) (a0z D.1.1) D.1.2 a;rw[<-jh] at g1 g2 g3;refine⟨c',g1,λt=>?_⟩;show SR _ _ _ _ (bU (mV s.sl (some q) _) t);rw[Fo];show SR _ _ _ _ (bY _ q _ t);by_cases e:t=q
  · subst e;rw[gl,O];exact g3
  · rw[iG e];exact(hu t).fL g2
 |da q i k o=>
  simp[Cl] at h;split at h<;>try (cases h;done)
  rename_i M D F;rw[ad0] at D;split at h<;>try (cases h;done)
  rename_i L;cases h;intro E c w u hC hu;obtain⟨c',g1,g2,g3⟩:=Tm hC (FN D.1) (a0z D.1) D.2 none;have U:q≠k:=λe=>by subst e;rw[FN D.1] at F;grind
  obtain⟨g4,g5⟩:=g1.recell (q:=q) (o:=M) (o':=Bc i (.ow k 0 .all) M) ((iG U).trans F) (Yw L) λus J=>aa4 L (λv Y=>by rw[show v=_ from Y];exact g3) J
  rw[jh,jh];exact⟨c',g4,λt=>((hu t).fL g2).fL g5⟩
 |VD k l=>
  simp[Cl] at h;split at h<;>try (cases h;done)
  rename_i ty q F;cases h;intro E c w u hC hu;obtain⟨g4,g5⟩:=hC.recell F (o':=.var ty (OA l q)) (.inr ⟨_,_,_,rfl,rfl⟩) λus J=>ab1 l J;rw[jh];exact⟨c,g4,λt=>(hu t).fL g5⟩
def vj:List Gh->aI->aI
 |[],s=>s
 |g::r,s=>vj r (match Cl g s with|some D=>D |none=>s)
theorem AP: ∀(l:List Gh) (s:aI),fH s (vj l s)
 |[],s=>fH.refl s
 |g::r,s=>by
  unfold vj;split
  · exact(arF (by omega)).trans (AP r _)
  · exact AP r _
inductive Un where
 |v (q i:Nat)
 |s (t:Nat)
def Nh (H:aG):DC->Option (Nat×Nat×DC)
 |.ow k g .all=>match aj H k with
  |some o=>match cU o,cD o g with
   |some (hs,_),some (some n)=>match Nat.beq g hs.length with|true=>none |false=>some (n,bc o,.ow k hs.length .all)
   |_,_=>none
  |none=>none
 |_=>none
theorem aba {H:aG} {x x':DC} {n m:Nat} (h:Nh H x=some (n,m,x')) (N:n=m) {c:Cx} {w:World} {u:Value} (hu:CR c (aj H) w u x):CR c (aj H) w u x':=by
 unfold Nh at h;split at h<;>try (cases h;done)
 split at h<;>try (cases h;done)
 rename_i o J;split at h<;>try (cases h;done)
 rename_i hs _ Z L O;split at h<;>try (cases h;done)
 simp[Prod.mk.injEq] at h;obtain⟨rfl,rfl,rfl⟩:=h;obtain⟨h1,o1,D,q,F,Y,ah,an,U,M⟩:=hu;rw[J] at D;cases D;rw[O] at F;cases F;exact⟨h1,o,J,some (bc o),by simp [cD,L],_,_,_,L,λm e=>by cases e;exact⟨ab8 _,λ_=>(M _ rfl).2 N⟩⟩
def Ui {R:Type} (u:Un) (s:aI) (K:aI->Option R):Option R:=
 match u with
 |.v q i=>match aj s.hp q with
  |some o=>match M5 i o with
   |some x=>match Nh s.hp x with
    |some (n,m,x')=>J (n=m) (K ⟨s.sl,oset s.hp q (Bc i x' o)⟩)
    |none=>K s
   |none=>K s
  |none=>K s
 |.s t=>match bU s.sl t with
  |.c x=>match Nh s.hp x with
   |some (n,m,x')=>J (n=m) (K ⟨oy s.sl t (.c x'),s.hp⟩)
   |none=>K s
  |_=>K s
theorem aqh {R:Type} {y:R} {u:Un} {s:aI} {K:aI->Option R} (h:Ui u s K=some y): ∃J,fH s J/\K J=some y:=by
 unfold Ui at h;split at h
 · split at h<;>try exact⟨s,fH.refl _,h⟩
   rename_i q i _ o L;split at h<;>try exact⟨s,fH.refl _,h⟩
   rename_i x F;split at h<;>try exact⟨s,fH.refl _,h⟩
   rename_i n m x' D;obtain⟨h1,h2⟩:=iE h;refine⟨_,λE c w u hC hu=>?_,h2⟩;obtain⟨g4,g5⟩:=hC.recell L (Yw F) λus N=>aa4 (x':=x') F (λv O=>aba D h1 O) N;rw[jh];exact⟨c,g4,λt=>(hu t).fL g5⟩
 · split at h<;>try exact⟨s,fH.refl _,h⟩
   rename_i t _ x M;split at h<;>try exact⟨s,fH.refl _,h⟩
   rename_i n m x' D;obtain⟨h1,h2⟩:=iE h;refine⟨⟨oy s.sl t (.c x'),s.hp⟩,λE c w u hC hu=>⟨c,hC,λq=>?_⟩,h2⟩;show SR _ _ _ _ (bU (mV s.sl (some t) _) q);rw[Fo];show SR _ _ _ _ (bY _ t _ q);by_cases e:q=t
   · subst e;rw[gl];have:=hu q;rw[M] at this;exact aba D h1 this
   · rw[iG e];grind
def MS {R:Type}:List Un->aI->(aI->Option R)->Option R
 |[],s,K=>K s
 |u::r,s,K=>Ui u s λD=>MS r D K
theorem RV {R:Type} {y:R}: ∀{l:List Un} {s:aI} {K:aI->Option R},MS l s K=some y-> ∃D,fH s D/\K D=some y
 |[],s,K,h=>⟨s,fH.refl _,h⟩
 |u::r,s,K,h=>by obtain⟨s1,F,h1⟩:=aqh h;obtain⟨s2,J,h2⟩:=RV h1;exact⟨s2,F.trans J,h2⟩
def F9 (v:Value):List PanicEntry:=[{v:=v,recovered:=false}]
def dW (w:World) (c:Cx) (h:Hp):cQ:=⟨w,c.A,λb=> ∃k,a0c k=false/\Bl c h k b,λb=> ∃k,a0c k=true/\Bl c h k b,c.m,λk=>if 1000<=k/\k<3000 then h k else none,[]⟩
theorem dW.own {w:World} {c:Cx} {h:Hp} {k b:Nat} (e:Bl c h k b):a3P (dW w c h) k b:=by
 cases q:a0c k with
 |true=>exact .inl ⟨q,k,q,e⟩
 |false=>exact .inr ⟨q,.inl ⟨k,q,e⟩⟩
theorem dW.nE {w:World} {c:Cx} {h:Hp} (h1: ∀k F b,Bl c h k b->Bl c h F b->k=F) (h2: ∀k b i,Bl c h k b-> ¬c.A b i) (D: ∀k b,Bl c h k b->b≠tabB/\b<w.heap.size) (J:TabOk w.heap[tabB]?):arY (dW w c h):=
 ⟨λb i q=>⟨λ⟨k,_,e⟩=>h2 k b i e q,λ⟨k,_,e⟩=>h2 k b i e q⟩,λ⟨k,_,e⟩=>(D k _ e).1 rfl,J,λ⟨k,_,e⟩=>(D k _ e).1 rfl,λb ⟨k,q,e⟩=>⟨λ⟨F,M,L⟩=>(by grind),(D k b e).2⟩⟩
inductive Ch where
 |ret (r:DS) (H1:aG)
 |dK (v:Value) (H1:aG)
def ve (E:cQ) (e:Ending) (c:Cx) (w:World):Ch->Prop
 |.ret r H1=> ∃v,e=.returned v/\Conc E c (aj H1) w/\SR c (aj H1) w v r
 |.dK D H1=>e=.panicked (F9 D)/\Conc E c (aj H1) w
def fo (P:Program) (f:FuncId) (args:List DS) (D:aG) (o:Ch):Prop:=
 ∀(c:Cx) (w:World) (vals:List Value),Conc (dW w c (aj D)) c (aj D) w->ay (SR c (aj D) w) vals args->Calls P f vals.toArray w λe w'=> ∃c',ve (dW w c (aj D)) e c' w' o
@[reducible] def Ih:Bool×Shape->Type
 |(false,sh)=>cv sh
 |(true,sh)=>Value×cv sh
@[reducible] def JU:List (Bool×Shape)->Type
 |[]=>Empty
 |a::[]=>Ih a
 |a::r=>Ih a⊕JU r
def xJ:DS->Sum DC (List DC)
 |.c x=>.inl x
 |.agg l=>.inr l
 |_=>.inl .dead
def sr:cG->DS
 |[p]=>p.2
 |l=>.fk (l.map λp=>xJ p.2)
def T3:(a:Bool×Shape)->Ih a->Ch
 |(false,sh),x=>.ret (sr (mkD sh x).sl) (mkD sh x).hp
 |(true,sh),x=>.dK x.1 (mkD sh x.2).hp
def mQ:(l:List (Bool×Shape))->JU l->Ch
 |[],x=>nomatch x
 |a::[],x=>T3 a x
 |a::b::r,x=>match x with|.inl x=>T3 a x |.inr x=>mQ (b::r) x
def nX:SS->Bool
 |.fn _ _ _=>false
 |_=>true
def pB (aF:Shape) (outs:List (Bool×Shape)):Bool:=
 Bb aF&&aF.hp.all (λp=>Nat.ble 1000 p.1)&&outs.all (λp=>Bb p.2&&p.2.sl.all (λq=>nX q.2))
structure dh (P:Program) where
 f:FuncId
 aF:Shape
 outs:List (Bool×Shape)
 F:(R:Type)->cv aF->(JU outs->Option R)->Option R
 fm:pB aF outs=true
 ok: ∀(R:Type) (x:cv aF) (k:JU outs->Option R) (y:R),F R x k=some y-> ∃o,k o=some y/\fo P f ((mkD aF x).sl.map (·.2)) (mkD aF x).hp (mQ outs o)
abbrev Ps:=List (Nat×Nat)
def lk:Ps->Nat->Option Nat
 |[],_=>none
 |(j,k)::r,q=>match Nat.beq j q with|true=>some k |false=>lk r q
def OC (ps:Ps) (j k:Nat):Bool:=match lk ps j with|some q=>Nat.beq q k |none=>false
theorem ab4 {ps:Ps} {j k:Nat}:OC ps j k=true<->lk ps j=some k:=by
 unfold OC;cases lk ps j with
 |none=>simp
 |some q=>simp
def Bi (ps:Ps):Bool:=nD (ps.map (·.1))&&nD (ps.map (·.2))
theorem tS: ∀{l:List Nat} {k:Nat},eC l k=true<->k∈l
 |[],k=>by simp [eC]
 |q::r,k=>by unfold eC;rw[at3,tS,ai3,Nat.beq_eq,eq_comm]
theorem r7: ∀{ps:Ps} {j k:Nat},lk ps j=some k->(j,k)∈ps
 |(q,r)::ps,j,k,h=>by
  unfold lk at h;split at h
  · simp_all
  · exact as3 _ (r7 h)
theorem AN: ∀{ps:Ps} {j k:Nat},nD (ps.map (·.1))=true->(j,k)∈ps->lk ps j=some k
 |(q,r)::ps,j,k,D,h=>by
  simp[nD] at D;unfold lk;rcases ai3.1 h with h |h
  · simp_all
  · have:Nat.beq q j=false:=by
      cases e:Nat.beq q j with
      |false=>rfl
      |true=>
       obtain rfl:=al2 e;have:=tS.2 (ar1.2 ⟨_,h,rfl⟩:q∈ps.map (·.1))
       grind
    rw[this];exact AN D.2 h
theorem TG: ∀{ps:Ps} {i j k:Nat},nD (ps.map (·.2))=true->(i,k)∈ps->(j,k)∈ps->i=j
 |(q,r)::ps,i,j,k,D,h,h'=>by
  simp[nD] at D
  have no: ∀{i},(i,r)∈ps->False:=λh=>by
   have:=tS.2 (ar1.2 ⟨_,h,rfl⟩:r∈ps.map (·.2))
   grind
  rcases ai3.1 h with h |h<;>rcases ai3.1 h' with h' |h'
  · grind
  · grind
  · grind
  · exact TG D.2 h h'
def VF (H:aG) (k:Nat):Nat:=match aj H k with
 |some o=>match cU o with|some (hs,_)=>hs.length+1 |none=>0
 |none=>0
def rA (ps:Ps) (H:aG):DC->DC
 |.ow j 0 p=>match lk ps j with|some k=>.ow k (VF H k) p |none=>.dead
 |.ow _ _ _=>.dead
 |.ptr j i=>match lk ps j with|some k=>.ptr k i |none=>.dead
 |x=>x
def xK (ps:Ps) (H:aG) (hs:List (Option Nat)):aX->aX
 |.var ty l=>.var ty (l.map (rA ps H))
 |.row _ e t l=>.row hs e t l
 |.bI _ e t b l q=>.bI hs e t b l (q.map (rA ps H))
def Bm (j k:Nat) (D:aX):Option aX->Option (List (Option Nat))
 |none=>some []
 |some o=>match cU o,cU D with
  |some (hs,ty,wd),some (_,F,J)=>match Nat.blt j 5000 with
   |true=>some (hs++[some (bc o)])
   |false=>match free k&&Nat.beq ty F&&Nat.beq wd J with|true=>some (List.replicate (hs.length+1) none) |false=>none
  |none,none=>match Nat.blt j 5000 with|true=>some [] |false=>none
  |_,_=>none
theorem TK {j k:Nat} {o F:aX} {hs:List (Option Nat)} (h:Bm j k F (some o)=some hs):(j<5000/\((∃h0 ty wd,cU o=some (h0,ty,wd)/\hs=h0++[some (bc o)])\/cU o=none/\hs=[]))\/
  (free k=true/\ ∃h0 ty wd h1,cU o=some (h0,ty,wd)/\cU F=some (h1,ty,wd)/\hs=List.replicate (h0.length+1) none):=by
 simp[Bm] at h;split at h<;>try (cases h;done)
 · rename_i J L;split at h
   · simp_all
   · split at h<;>try (cases h;done)
     rename_i hf;simp only[ad0] at hf;obtain⟨⟨h1,h2⟩,D⟩:=hf;have h2:=al2 h2;have D:=al2 D;grind
 · rename_i J L;split at h<;>try (cases h;done)
   simp_all
theorem asl {j k:Nat} {H:aG} {F:aX} {hs:List (Option Nat)} (h:Bm j k F (aj H k)=some hs):hs.length=VF H k:=by
 unfold VF;cases e:aj H k with
 |none=>rw[e] at h;cases h;rfl
 |some o=>rw[e] at h;rcases TK h with⟨_,⟨h0,ty,wd,D,rfl⟩ |⟨D,rfl⟩⟩ |⟨_,h0,ty,wd,h1,D,_,rfl⟩<;>simp [D]
def a0j (ps:Ps):Ps:=ps.filter λp=> !a0c p.1
theorem a2D {ps:Ps} {j k:Nat}:(j,k)∈a0j ps<->(j,k)∈ps/\a0c j=false:=by simp[a0j]
theorem a3H {ps:Ps} (h:nD (ps.map (·.2))=true):nD ((a0j ps).map (·.2))=true:=by
 induction ps with
 |nil=>rfl
 |cons p r D=>
  simp[nD] at h;unfold a0j;rw[List.filter_cons];split
  · simp[nD];refine⟨?_,D h.2⟩;cases e:eC ((r.filter λp=> !a0c p.1).map (·.2)) p.2 with
    |false=>rfl
    |true=>obtain⟨q,F,J⟩:=ar1.1 (tS.1 e);rw[tS.2 (ar1.2 ⟨q,(List.mem_filter.1 F).1,J⟩)] at h;grind
  · exact D h.2
def uB (ps:Ps) (H H1:aG):Ps->Option aG
 |[]=>some H
 |(j,k)::r=>match uB ps H H1 r,aj H1 j with
  |some A,some D=>match Bm j k D (aj H k) with|some hs=>some (oset A k (xK ps H hs D)) |none=>none
  |_,_=>none
theorem SG {ps:Ps} {H H1:aG}: ∀{l:Ps} {A:aG},nD (l.map (·.2))=true->uB ps H H1 l=some A->(∀j k,(j,k)∈l-> ∃D hs,aj H1 j=some D/\Bm j k D (aj H k)=some hs/\aj A k=some (xK ps H hs D))/\ ∀k,k∉l.map (·.2)->aj A k=aj H k
 |[],A,_,h=>by cases h;grind
 |(j0,Y)::r,A,F,h=>by
  simp[nD] at F;unfold uB at h;split at h<;>try (cases h;done)
  rename_i Z D hA ho;split at h<;>try (cases h;done)
  rename_i hs ah;cases h;obtain⟨h1,h2⟩:=SG F.2 hA;have O: ∀k,k∈r.map (·.2)->k≠Y:=λk hk e=>by subst e;rw[tS.2 hk] at F;grind
  refine⟨λj k N=>?_,λk hk=>?_⟩
  · rcases ai3.1 N with e |e
    · simp_all[jh,gl]
    · obtain⟨o,U,J,L,M⟩:=h1 j k e;exact⟨o,U,J,L,by rw[jh,iG (O k (ar1.2 ⟨_,e,rfl⟩))];exact M⟩
  · rw[aw6,ai3,not_or] at hk;rw[jh,iG hk.1];exact h2 k hk.2
def c0 (ps:Ps) (c:Cx):Cx:=⟨λj=>match lk ps j with|some k=>c.m k |none=>undef,c.A⟩
section
variable {E:cQ} {c:Cx} {h h0:Hp} {w:World} {ps:Ps}
theorem Conc.enter (hC:Conc E c h w) (h1:Bi ps=true) (hk: ∀j o',h0 j=some o'-> ∃k o,lk ps j=some k/\h k=some o/\nz (c0 ps c) h0 w j o'):Conc (dW w (c0 ps c) h0) (c0 ps c) h0 w:=by
 unfold Bi at h1;rw[ad0] at h1;have M: ∀j b,Bl (c0 ps c) h0 j b-> ∃k,lk ps j=some k/\Bl c h k b:=λj b ⟨⟨o',e⟩,D⟩=>by obtain⟨k,o,L,N,_⟩:=hk j o' e;exact⟨k,L,⟨o,N⟩,by unfold c0 at D;simp[L] at D;exact D⟩
 have ah: ∀j J b,Bl (c0 ps c) h0 j b->Bl (c0 ps c) h0 J b->j=J:=λj J b e F=>by obtain⟨k,U,D⟩:=M j b e;obtain⟨Z,L,N⟩:=M J b F;obtain rfl:=hC.inj k Z b D N;exact TG h1.2 (r7 U) (r7 L)
 have O: ∀j b i,Bl (c0 ps c) h0 j b-> ¬c.A b i:=λj b i e F=>by obtain⟨k,_,D⟩:=M j b e;exact hC.jX k b i D F
 refine⟨λj o' e=>(hk j o' e).choose_spec.choose_spec.2.2,λj J b e F=>?_,λj b i e F=>?_,hC.lt,dW.nE (λj J b e F=>?_) (λj b i e F=>?_) (λj b e=>?_) hC.Oz,λ_ _ q=>q,λ_ _ q=>.inl q,λj b e=>dW.own e,Ext.refl _ _,λk o e=>?_⟩
 · grind
 · exact O j b i e F
 · grind
 · exact O j b i e F
 · obtain⟨k,_,D⟩:=M j b e;exact⟨λq=>by subst q;exact hC.a3K D,hC.blt D⟩
 · have e:(if 1000<=k/\k<3000 then h0 k else none)=some o:=e
   split at e<;>try (cases e;done)
   rename_i Y;exact⟨Y,o,e,(OL.refl false _ _).pl⟩
theorem Conc.back (hC:Conc E c h w) (h1:Bi ps=true) (hk: ∀j o',h0 j=some o'-> ∃k o,lk ps j=some k/\h k=some o/\nG o o') {H H1 A:aG} (b5:Sub H h) (ch: ∀j k,lk ps j=some k-> ∀o,aj H k=some o-> ∃o',h0 j=some o'/\nG o o') (b7: ∀j k,lk ps j=some k->a0c j=false->aj H k=none->h k=none) (hW: ∀j k,(j,k)∈a0j ps->a0c k=false) (hb:uB (a0j ps) H H1 (a0j ps)=some A)
  {c1:Cx} {w':World} (U:Conc (dW w (c0 ps c) h0) c1 (aj H1) w') (cp: ∀j D,aj H1 j=some D-> ∀hs ty wd,cU D=some (hs,ty,wd)->hs=[]) (b6: ∀j o',h0 j=some o'->1000<=j):
  ∃c',Conc E c' (bC h (aj A)) w'/\eN c h w c' (bC h (aj A)) w'/\ ∀u x,CR c1 (aj H1) w' u x->CR c' (bC h (aj A)) w' u (rA (a0j ps) H x):=by
 unfold Bi at h1;rw[ad0] at h1;obtain⟨f1,f2⟩:=SG (a3H h1.2) hb;obtain⟨L,b4⟩: ∃L,L=a0j ps:=⟨_,rfl⟩;have ah: ∀{j k},(j,k)∈L->(j,k)∈ps/\a0c j=false:=λ{j k} e=>a2D.1 (b4▸e);rw[<-b4] at hW hb f1 f2⊢
 let c':Cx:=⟨λk=>match L.find? (λp=>p.2==k) with|some p=>c1.m p.1 |none=>c.m k,c1.A⟩
 have hm: ∀j k,(j,k)∈L->c'.m k=c1.m j:=λj k J=>by
  show(match L.find? (λp=>p.2==k) with|some p=>c1.m p.1 |none=>c.m k)=_
  cases e:L.find? (λp=>p.2==k) with
  |none=>have:=List.find?_eq_none.1 e _ J;simp at this
  |some p=>
   have M:p.2=k:=by simpa using List.find?_some e
   obtain⟨p1,p2⟩:=p;subst M;rw[TG h1.2 (ah J).1 (ah (List.mem_of_find?_eq_some e)).1]
 have hn: ∀k,k∉L.map (·.2)->c'.m k=c.m k/\bC h (aj A) k=h k:=λk hk=>by
  refine⟨?_,?_⟩
  · show(match L.find? (λp=>p.2==k) with|some p=>c1.m p.1 |none=>c.m k)=_
    rw[List.find?_eq_none.2 λp hp=>by simp;intro e;exact hk (ar1.2 ⟨p,hp,e⟩)]
  · unfold bC;rw[f2 k hk];cases e:aj H k with
    |none=>rfl
    |some o=>rw[b5 k o e];rfl
 have a7: ∀k,k∈L.map (·.2)-> ∃j,(j,k)∈L:=λk hk=>by obtain⟨⟨j,k'⟩,e,rfl⟩:=ar1.1 hk;grind
 have ho: ∀j k,(j,k)∈L-> ∃D hs,aj H1 j=some D/\Bm j k D (aj H k)=some hs/\bC h (aj A) k=some (xK L H hs D):=λj k J=>by obtain⟨D,hs,N,M,e3⟩:=f1 j k J;exact⟨D,hs,N,M,by unfold bC;rw[e3];rfl⟩
 have hF: ∀b,(dW w (c0 ps c) h0).F b-> ∃j k,(j,k)∈L/\Bl c h k b:=λb ⟨j,hj,⟨o',e⟩,M⟩=>by obtain⟨k,o,e3,e4,_⟩:=hk j o' e;exact⟨j,k,b4▸a2D.2 ⟨r7 e3,hj⟩,⟨o,e4⟩,by unfold c0 at M;simp[e3] at M;exact M⟩
 have a8: ∀k b,k∉L.map (·.2)->Bl c h k b-> ¬(dW w (c0 ps c) h0).F b:=λk b hk hb hf=>by obtain⟨j,k',N,M⟩:=hF b hf;obtain rfl:=hC.inj k k' b hb M;exact hk (ar1.2 ⟨_,N,rfl⟩)
 have ar: ∀D hs,cU (xK L H hs D)=(cU D).map (λq=>(hs,q.2))/\bc (xK L H hs D)=bc D:=λD hs=>by cases D<;>exact⟨rfl,rfl⟩
 have b9: ∀j k o D,(j,k)∈L->aj H k=some o->j<5000->aj H1 j=some D->PL (c.m k) o (c1.m j) D:=λj k o D J av a6 N=>by
  have an:=AN h1.1 (ah J).1;obtain⟨o',e4,e5⟩:=ch j k an o av;have cj:j<3000:=by have h3:=(ah J).2;have:=b6 j o' e4;exact Nat.lt_of_not_le λq=>by rw[a2F.2 ⟨q,a6⟩] at h3;cases h3
  have cc:(c0 ps c).m j=c.m k:=by unfold c0;simp[an]
  obtain⟨_,oq,O,Z⟩:=U.fV j o' (by show(if 1000<=j/\j<3000 then h0 j else none)=some o';rw[if_pos ⟨b6 j o' e4,cj⟩];exact e4)
  rw[N] at O;cases O;exact e5.pl.trans (by rw[<-cc];exact Z)
 have b8:eN c h w c' (bC h (aj A)) w':=by
  refine⟨λk o e=>?_,λb i v N M=>⟨U.le _ _ N,U.ext.cell (λhf=>?_) M⟩⟩
  · by_cases Y:k∈L.map (·.2)
    · obtain⟨j,J⟩:=a7 k Y;obtain⟨D,hs,N,M,e3⟩:=ho j k J;have an:=AN h1.1 (ah J).1
      have av:aj H k=some o:=by
       cases eH:aj H k with
       |none=>rw[b7 j k an (ah J).2 eH] at e;cases e
       |some o2=>rw[b5 k o2 eH] at e;exact e
      refine⟨_,e3,?_⟩;rw[av] at M;rw[hm j k J];rcases TK M with⟨a6,hq⟩ |⟨_,aE,ty,wd,c3,hr,ca,rfl⟩
      · have hp:=b9 j k o D J av a6 N;unfold PL at hp;unfold OL;rcases hq with⟨aE,ty,wd,hr,rfl⟩ |⟨hr,rfl⟩
        · rw[hr] at hp⊢;obtain⟨c5,q3,q4⟩:=hp;exact⟨aE++[some (bc o)],by rw[(ar _ _).1,q3];rfl,.inl ⟨λg n q=>Zy hr (by rw[(ar _ _).1,q3];rfl) rfl q,by rw[(ar _ _).2];exact q4⟩⟩
        · rw[hr] at hp⊢;cases o with
          |var ty l=>obtain⟨⟨l2,rfl⟩,q4⟩:=hp;exact⟨⟨_,rfl⟩,q4⟩
          |_=>cases hr
      · unfold OL;rw[hr];refine⟨List.replicate (aE.length+1) none,by rw[(ar _ _).1,ca];rfl,.inr ⟨rfl,λg n q=>?_⟩⟩
        unfold cD at q⊢;rw[hr] at q;have hg:=(as4.1 q).1;rw[ae7] at hg;have hg:g<aE.length+1:=hg;rw[(ar _ _).1,ca];show(List.replicate (aE.length+1) none++[_])[g]? =some none;rw[av5 (by grind),List.getElem?_replicate,if_pos hg]
    · obtain⟨N,M⟩:=hn k Y;exact⟨o,by rw[M];exact e,by rw[N];exact OL.refl _ _ _⟩
  · obtain⟨j,k,_,az⟩:=hF b hf;exact hC.jX k b i az N
 have bb: ∀u x,CR c1 (aj H1) w' u x->CR c' (bC h (aj A)) w' u (rA L H x):=by
  intro u x hu;unfold rA;split
  · rename_i j p;split
    · rename_i k an;obtain⟨b0,D,N,n,M,c4,ty,wd,e3,e4⟩:=hu;have J:=r7 an;obtain⟨cx,hs,g1,g2,g3⟩:=ho j k J;rw[N] at g1;cases g1;obtain rfl:=cp j D N _ _ _ e3;have e5:cD D 0=some (some (bc D)):=by simp [cD,e3]
      rw[e5] at M;cases M;have cd:=asl g2;refine⟨b0,_,g3,some (bc D),by rw[<-cd];simp [cD,(ar _ _).1,(ar _ _).2,e3],hs,ty,wd,by rw[(ar _ _).1,e3];rfl,λm bx=>?_⟩
      injection bx with bx;subst bx;rw[(ar _ _).2,hm j k J];exact e4 _ rfl
    · exact CR.one hu
  · exact CR.one hu
  · rename_i j i;split
    · rename_i k an;obtain⟨b0,D,N,⟨ty,l,rfl⟩,M⟩:=hu;obtain⟨cx,hs,g1,g2,g3⟩:=ho j k (r7 an);rw[N] at g1;cases g1;exact⟨b0,_,g3,⟨_,_,rfl⟩,by rw[hm j k (r7 an)];exact M⟩
    · exact CR.one hu
  · rename_i O Z q3;cases x with
    |ow j g p=>cases g with
     |zero=>exact(O _ _ rfl).elim
     |succ g=>exact(Z _ _ _ rfl).elim
    |ptr j i=>exact(q3 _ _ rfl).elim
    |_=>exact hu
 have az: ∀k b,Bl c' (bC h (aj A)) k b->(k∉L.map (·.2)/\Bl c h k b)\/ ∃j,(j,k)∈L/\Bl c1 (aj H1) j b:=λk b ⟨⟨o,N⟩,M⟩=>by
  by_cases Y:k∈L.map (·.2)
  · obtain⟨j,J⟩:=a7 k Y;obtain⟨D,hs,g1,_⟩:=ho j k J;exact .inr ⟨j,J,⟨D,g1⟩,by rw[<-hm j k J];exact M⟩
  · obtain⟨g1,g2⟩:=hn k Y;exact .inl ⟨Y,⟨o,by rw[<-g2];exact N⟩,by rw[<-g1];exact M⟩
 have b3: ∀{j k} b,(j,k)∈L->Bl c1 (aj H1) j b->(dW w (c0 ps c) h0).F b\/w.heap.size<=b:=λb hj e=>U.fr (ah hj).2 e;have bp: ∀b,(dW w (c0 ps c) h0).F b->E.F b\/E.w.heap.size<=b:=λb e=>by obtain⟨j,k,N,M⟩:=hF b e;exact hC.fr (hW j k N) M
 refine⟨c',⟨λk o e=>?_,λk k' b e e'=>?_,λk b i e e'=>?_,U.lt,hC.nE,λb i e=>U.le b i (hC.le b i e),λb i e=>?_,λk b e=>?_,hC.ext.trans U.ext λb e M=>?_,λk o e=>?_⟩,b8,bb⟩
 · by_cases Y:k∈L.map (·.2)
   · obtain⟨j,J⟩:=a7 k Y;obtain⟨D,hs,g1,g2,g3⟩:=ho j k J;rw[g3] at e;cases e;have h5:=U.obj j D g1;have flat: ∀{t:Ty} {l:List (den t)},(aT t l).map (rA L H)=aT t l:=(av9 λx hx=>by obtain⟨t,d,rfl⟩:=uy _ _ hx;rfl).trans (List.map_id _)
     cases D with
     |var ty l=>obtain⟨b,cs,O,Z,q3⟩:=h5;exact⟨b,cs,(hm j k J).trans O,Z,q3.imp bb⟩
     |row _ e t l=>
      obtain⟨q0,xs,O,Z⟩:=h5.row rfl;have:=Z.imp bb;rw[show(dM (.row _ e t l)).map (rA L H)=dM (xK L H hs (.row _ e t l)) from flat] at this
      exact⟨_,_,_,xs,rfl,q0,by rw[hm j k J];exact O,this⟩
     |bI _ e t b l q=>
      obtain⟨q0,xs,O,Z⟩:=h5.row rfl;have:=Z.imp bb
      rw[show(dM (.bI _ e t b l q)).map (rA L H)=dM (xK L H hs (.bI _ e t b l q)) from by
       cases b with
       |true=>rfl
       |false=>show(aT t l++q).map _=aT t l++q.map _;rw[ag9,flat]] at this
      exact⟨_,_,_,xs,rfl,q0,by rw[hm j k J];exact O,this⟩
   · obtain⟨g1,g2⟩:=hn k Y;rw[g2] at e;have h5:=hC.obj k o e;exact h5.imp (λ_ _=>CR.fL b8) g1 λb hb=>U.ext.block b (h5.lt hb) (a8 k b Y ⟨⟨o,e⟩,hb⟩)
 · rcases az k b e with⟨a1,a2⟩ |⟨j,a1,a2⟩<;>rcases az k' b e' with⟨b1,b2⟩ |⟨j',b1,b2⟩
   · exact hC.inj k k' b a2 b2
   · rcases b3 b b1 b2 with q |q
     · exact(a8 k b a1 a2 q).elim
     · have:=hC.blt a2;omega
   · rcases b3 b a1 a2 with q |q
     · exact(a8 k' b b1 b2 q).elim
     · have:=hC.blt b2;omega
   · obtain rfl:=U.inj j j' b a2 b2;have N:=AN h1.1 (ah a1).1;rw[AN h1.1 (ah b1).1] at N;injection N with N;exact N.symm
 · rcases az k b e with⟨a1,a2⟩ |⟨j,a1,a2⟩
   · rcases U.new b i e' with q |q |q
     · exact hC.jX k b i a2 q
     · have:=hC.blt a2;have q:w.heap.size<=b:=q;omega
     · exact a8 k b a1 a2 q
   · exact U.jX j b i a2 e'
 · rcases U.new b i e with q |q |q
   · exact hC.new b i q
   · exact .inr (.inl (an4 hC.ext.size q))
   · exact .inr (bp b q).symm
 · rcases az k b e with⟨a1,a2⟩ |⟨j,a1,a2⟩
   · exact hC.own k b a2
   · refine .inr ⟨hW j k a1,?_⟩;rcases b3 b a1 a2 with q |q
     · exact bp b q
     · exact .inr (an4 hC.ext.size q)
 · rcases bp b M with q |q
   · exact q
   · omega
 · obtain⟨hr,D,O,Z⟩:=hC.fV k o e;refine⟨hr,?_⟩;by_cases Y:k∈L.map (·.2)
   · obtain⟨j,J⟩:=a7 k Y;obtain⟨o3,hs,g1,g2,g3⟩:=ho j k J
     have av:aj H k=some D:=by
      cases eH:aj H k with
      |none=>rw[b7 j k (AN h1.1 (ah J).1) (ah J).2 eH] at O;cases O
      |some o2=>rw[b5 k o2 eH] at O;exact O
     rw[av] at g2;rcases TK g2 with⟨a6,hq⟩ |⟨hf,_⟩
     · have hp:=b9 j k D o3 J av a6 g1;refine⟨_,g3,Z.trans (hp.trans ?_)⟩;rw[hm j k J];unfold PL;cases o3 with
       |var ty l=>exact⟨⟨_,rfl⟩,rfl⟩
       |_=>exact⟨_,rfl,.inl ⟨rfl,rfl⟩⟩
     · rw[aas hC hf] at e;cases e
   · obtain⟨g1,g2⟩:=hn k Y;exact⟨D,by rw[g2];exact O,by rw[g1];exact Z⟩
end
def OF (P:Program) (f:FuncId):Bool:=
 match P.funcs[f]? with
 |some fn=>fn.name != "runtime.NumGoroutine" &&fn.body.isSome
 |none=>false
theorem ajq {P:Program} {f:FuncId} (h:OF P f=true) (args:Array Value) (w:World):(callFunc f args).run P w=.ok (.enter f args) w:=by
 unfold OF at h;split at h
 · rename_i fn hf;simp[bne_iff_ne] at h;obtain⟨h1,h2⟩:=h;cases D:fn.body with
   |none=>grind
   |some b=>simp [callFunc,hf,h1,D]
 · grind
def Nq (s:cG) (y:Operand):Option (FuncId×List DC×List DC):=
 match bB s y with
 |some (.fn (.func f) a b)=>some (f,a,b)
 |some (.c (.mu f))=>some (f,[],[])
 |_=>none
def OJ (s:cG):List Operand->Option (List DS)
 |[]=>some []
 |x::r=>match bB s x,OJ s r with|some v,some l=>some (v::l) |_,_=>none
def M8 (s:cG) (a:List DC) (xs:List Operand) (b:List DC):Option (List DS):=
 match OJ s xs with|some l=>some (a.map .c++l++b.map .c) |none=>none
section
variable {P:Program} {c:Cx} {h:Hp} {w:World} {E:cQ} {H:aG} {σ:cG} {dst:Option Tmp} {ty0:TypeId} {pos:String} {af:Array Edge} {g:Option (Nat×Bool)} {v:DS}
theorem aaP {f:FuncId} {y:Operand} {xs:List Operand} {a:List DC} {b:List DC} {l:List DS} {ats:Array TypeId} {e:Operand->Value} (hG:OF P f=true) (D:Nq σ y=some (f,a,b)) (J:M8 σ a xs b=some l)
  (N: ∀x∈(Op.call {callee:=.value y,args:=xs.toArray,argTypes:=ats}).operands,∀d,bB σ x=some d->SR c h w (e x) d): ∃vals:List Value,(execOp e ⟨dst,.call {callee:=.value y,args:=xs.toArray,argTypes:=ats},ty0,pos,af,g⟩).run P w=.ok (.enter f vals.toArray) w/\ay (SR c h w) vals l:=by
 have hf: ∃vs us:List Value,e y=.func (.func f) vs.toArray us.toArray/\ay (CR c h w) vs a/\ay (CR c h w) us b:=by
  unfold Nq at D;split at D<;>try (cases D;done)
  · rename_i L;injection D with D;injection D with h1 h2;injection h2 with h2 M;subst h1;subst h2;subst M;exact N y (by simp [Op.operands,Call.operands]) _ L
  · rename_i L;injection D with D;injection D with h1 h2;injection h2 with h2 M;subst h1;subst h2;subst M;exact⟨[],[],N y (by simp [Op.operands,Call.operands]) _ L,.nil,.nil⟩
 obtain⟨vs,us,U,h1,h2⟩:=hf;refine⟨vs++xs.map e++us,by simp [execOp,resolve,Deferred.ofValue,invoke,U,ajq hG],?_⟩
 have Y: ∀{xs:List Operand} {q:List DS},OJ σ xs=some q->(∀x∈xs,∀d,bB σ x=some d->SR c h w (e x) d)->ay (SR c h w) (xs.map e) q:=by
  intro xs
  induction xs with
  |nil=>intro q F _;cases F;exact .nil
  |cons x r ih=>
   intro q F O;unfold OJ at F;split at F<;>try (cases F;done)
   rename_i L J;cases F;exact .cons (O x am5 _ L) (ih J λz hz=>O z (as3 _ hz))
 unfold M8 at J;split at J<;>try (cases J;done)
 rename_i q F;cases J;exact((h1.imp (R':=SR c h w) (f:=.c) λ_ _ q=>q).app (Y F λx Z=>N x (by simp [Op.operands,Call.operands,Z]))).app (h2.imp (R':=SR c h w) (f:=.c) λ_ _ q=>q)
end
def uG:Nat->List DS->cG
 |_,[]=>[]
 |k,x::r=>(k,x)::uG (k+1) r
theorem aaT: ∀{l:List DS} {k i:Nat} {d:DS},l[i]? =some d->bU (uG k l) (k+i)=d
 |x::r,k,0,d,h=>by cases h;exact if_pos rfl
 |x::r,k,i+1,d,h=>by
  show(if k=k+(i+1) then x else bU (uG (k+1) r) (k+(i+1)))=d
  rw[if_neg (by simp),show k+(i+1)=k+1+i by omega]
  exact aaT (l:=r) h
def od (k:Nat):List (Nat×SS)->Bool
 |[]=>true
 |p::r=>Nat.beq p.1 k&&od (k+1) r
theorem mkSl_keys {X:Type}:(l:List (Nat×SS))->(v:p4 X l)->(mkSl l v).1.map (·.1)=l.map (·.1)
 |[],_=>rfl
 |p::r,v=>by show p.1::(mkSl r (mkS p.2 v).2).1.map (·.1)=_;rw[mkSl_keys r];rfl
theorem Sk: ∀{q:List (Nat×SS)} {l:cG} {k i:Nat} {p:Nat×DS},od k q=true->l.map (·.1)=q.map (·.1)->l[i]? =some p->bU l (k+i)=p.2
 |[],l,k,i,p,_,e,h=>by have:l=[]:=List.map_eq_nil_iff.1 e;grind
 |a::q,[],k,i,p,_,e,h=>nomatch e
 |a::q,(x,d)::l,k,i,p,hk,e,h=>by
  unfold od at hk;rw[ad0] at hk;have h1:=al2 hk.1;simp[List.cons.injEq] at e;have D:x=k:=by rw[e.1,h1]
  subst D;cases i with
  |zero=>cases h;exact if_pos rfl
  |succ i=>
   show(if x=x+(i+1) then d else bU l (x+(i+1)))=_
   rw[if_neg (by simp),show x+(i+1)=x+1+i by omega]
   exact Sk hk.2 e.2 h
def sB (H:aG):Nat->(t:Ty)->DC->Option (den t)
 |0,t,c=>rC t c
 |n+1,.sl t,c=>match c with
  |.ow k g .all=>match rowAt H k g with
   |some (.row _ _ D l)=>match mT D t with|some h=>some (h.down▸l:List (den t)) |none=>none
   |some (.bI _ _ D e l last)=>match mT D t,pF (lV (sB H n) D last) with|some h,some x=>some (h.down▸cond e [] (l++[x]):List (den t)) |_,_=>none
   |_=>none
  |c=>rC (.sl t) c
 |n+1,.ptr t,c=>match c with
  |.ptr k 0=>match aj H k with
   |some (.var F q)=>match Nat.beq F a0i with|false=>pF (lV (sB H n) t q) |true=>none
   |_=>none
  |c=>rC (.ptr t) c
 |n+1,t,c=>rC t c
def cb (c:Cx) (h:Hp):Cx:=⟨λ_=>undef,λb i=>c.A b i\/ ∃k,Bl c h k b⟩
abbrev eU:Hp:=aj []
theorem abH {E:cQ} {c:Cx} {h:Hp} {w:World} (hC:Conc E c h w) {H:aG} (hs:Sub H h): ∀(n:Nat) (t:Ty) (x:DC) (d:den t) (u:Value),lE t=true->sB H n t x=some d->CR c h w u x->CR (cb c h) eU w u (.v t d):=by
 have Y:uC c.A w (cb c h).A w:=λb i v h1 h2=>⟨.inl h1,h2⟩;have up: ∀{t:Ty} {d:den t} {u:Value},CR c h w u (.v t d)->CR (cb c h) eU w u (.v t d):=λhu=>⟨hu.1,hu.2.mono Y _ λ_ _ q=>q⟩;have fl: ∀{t:Ty} {l:List (den t)} {us:List Value},ay (CR c h w) us (aT t l)->ay (CR (cb c h) eU w) us (aT t l):=λ{t l us} hu=>ay.of hu.len λi u x h1 h2=>by obtain⟨u',N,e2⟩:=hu.get h2;rw[h1] at N;cases N;obtain⟨t',d',rfl⟩:=uy _ _ (List.mem_of_getElem? h2);grind
 have row: ∀{k g:Nat} {o:aX} {t:Ty} {l:List (den t)} {u:Value},rowAt H k g=some o->CR c h w u (.ow k g .all)->(∃hs ty,cU o=some (hs,ty,wid t))->bc o=l.length->(∀us,ay (CR c h w) us (dM o)->ay (CR (cb c h) eU w) us (aT t l))->CR (cb c h) eU w u (.v (.sl t) l):=by
  intro k g o t l u F hu ⟨ah,ty,hr⟩ hl hc;obtain⟨_,_,_,_,hm⟩:=iJ (w:=w) hs F hu;have hk:=hs _ _ (jG F).1;obtain⟨_,xs,g1,g2⟩:=(hC.obj k o hk).row hr;rw[show u=c.m k from hm]
  rw[hl] at g1;exact R9 g1 (hc _ g2) λb i D=>.inr ⟨k,⟨o,hk⟩,D⟩
 intro n
 induction n with
 |zero=>intro t x d u J D hu;exact up (uf J D hu)
 |succ n ih=>
  intro t x d u J D hu;have jn: ∀{t:Ty} {q:List DC} {d:den t} {us:List Value},pF (lV (sB H n) t q)=some d->ay (CR c h w) us q->ay (CR (cb c h) eU w) us (cA t d):=λ{t q d us} Z hu=>by obtain⟨l1,e,h3⟩:=FL (Q:=CR c h w) (Q':=CR (cb c h) eU w) (λt x d v J L U=>ih t x d v J L U) t (Fl Z);grind
  cases t with
  |sl t=>
   unfold sB at D;split at D
   · split at D<;>try (cases D;done)
     · rename_i F;split at D<;>try (cases D;done)
       rename_i e _;obtain⟨e⟩:=e;subst e;cases D;exact row F hu ⟨_,_,rfl⟩ rfl λus q=>fl q
     · rename_i M l last F;split at D<;>try (cases D;done)
       rename_i e x' _ L;obtain⟨e⟩:=e;subst e;cases D;refine row F hu ⟨_,_,rfl⟩ (by cases M<;>simp [bc]) λus q=>?_
       cases M with
       |true=>have q:=q;cases q;exact .nil
       |false=>have q:ay (CR c h w) us (aT _ l++last):=q;show ay _ _ (aT _ (l++[x']));rw[qu];have O:=q.take (aT _ l).length;have D:=q.drop (aT _ l).length;rw[List.take_left] at O;rw[List.drop_left] at D;rw[<-as0 (aT _ l).length us];exact(fl O).app (by simpa[aT] using jn L D)
   · exact up (uf J D hu)
  |ptr t=>
   unfold sB at D;split at D
   · split at D<;>try (cases D;done)
     rename_i k _ ty q F;split at D<;>try (cases D;done)
     rename_i h0;obtain⟨b,hm,rfl⟩:=F5 (w:=w) hs F hu;obtain⟨b',cs,g1,g2,g3⟩:=hC.obj k _ (hs _ _ F);rw[a0G h0] at g2;rw[hm] at g1;injection g1 with g1;injection g1 with g1;cases g1;refine⟨rfl,b,0,rfl,(CG.tr (c:=cb c h) (h:=eU) t).1 (CG.of (jn D g3) λi v U=>⟨.inr ⟨k,⟨_,hs _ _ F⟩,by rw[hm];rfl⟩,?_⟩)⟩
     rw[cell_of g2];grind
   · exact up (uf J D hu)
  |pair=>cases J
  |unit=>cases J
  |_=>exact up (uf J D hu)
def Nu (H:aG):PC:=λX s c x=>match s with
 |.v t=>match lE t with
  |true=>match sB H 3 t c with|some q=>some (q,x) |none=>none
  |false=>none
 |s=>uo (λ_ _=>false) H X s c x
def kv:Ty->Bool
 |.int _=>true
 |.bool=>true
 |.str=>true
 |.gB _=>true
 |.val=>true
 |.unit=>true
 |.pair a b=>kv a&&kv b
 |_=>false
def TM:Sh->Bool
 |.v t=>kv t
 |.kb _=>true
 |_=>false
def aca:SS->Bool
 |.c x=>TM x
 |.st t=>kv t
 |.agg l=>l.all TM
 |_=>false
def asm (l:List (Bool×Shape)):Bool:=l.all λp=>p.2.sl.all λq=>aca q.2
def ar9 (l:List (Bool×Shape)):Bool:=l.all λp=>p.2.hp.isEmpty
def inL (l:List Nat) (d:Option Tmp):Bool:=match d with|some d=>eC l d |none=>true
def Cj (l:List Nat) (d:Option Tmp):Bool:=match d with|some d=>eC l d |none=>false
def Nj:List (Nat×Ps)->Option Tmp->Ps
 |[],_=>[]
 |(q,ps)::r,d=>match Nat.beq q (d.getD 1000000) with|true=>ps |false=>Nj r d
section
variable {R:Type}
def Gv:(l:List (Bool×Shape))->JU l->((sh:Shape)->cv sh->Option R)->(Value->(sh:Shape)->cv sh->Option R)->Option R
 |[],_,_,_=>none
 |(false,sh)::[],o,K,KP=>K sh o
 |(true,sh)::[],o,K,KP=>KP o.1 sh o.2
 |(false,sh)::b::r,o,K,KP=>match o with
  |.inl v=>K sh v
  |.inr v=>Gv (b::r) v K KP
 |(true,sh)::b::r,o,K,KP=>match o with
  |.inl v=>KP v.1 sh v.2
  |.inr v=>Gv (b::r) v K KP
theorem Lw {y:R} {K:(sh:Shape)->cv sh->Option R} {KP:Value->(sh:Shape)->cv sh->Option R}: ∀{l:List (Bool×Shape)} {o:JU l},Gv l o K KP=some y->
  (∃sh v,(false,sh)∈l/\mQ l o=.ret (sr (mkD sh v).sl) (mkD sh v).hp/\K sh v=some y)\/(∃sh F v,(true,sh)∈l/\mQ l o=.dK F (mkD sh v).hp/\KP F sh v=some y)
 |[],o,h=>nomatch o
 |(false,sh)::[],o,h=>.inl ⟨sh,o,am5,rfl,h⟩
 |(true,sh)::[],o,h=>.inr ⟨sh,o.1,o.2,am5,rfl,h⟩
 |(false,sh)::b::r,o,h=>by
  cases o with
  |inl v=>exact .inl ⟨sh,v,am5,rfl,h⟩
  |inr v=>exact(Lw (l:=b::r) h).imp (λ⟨sh,v,h1,h2,D⟩=>⟨sh,v,as3 _ h1,h2,D⟩) λ⟨sh,F,v,h1,h2,D⟩=>⟨sh,F,v,as3 _ h1,h2,D⟩
 |(true,sh)::b::r,o,h=>by
  cases o with
  |inl v=>exact .inr ⟨sh,v.1,v.2,am5,rfl,h⟩
  |inr v=>exact(Lw (l:=b::r) h).imp (λ⟨sh,v,h1,h2,D⟩=>⟨sh,v,as3 _ h1,h2,D⟩) λ⟨sh,F,v,h1,h2,D⟩=>⟨sh,F,v,as3 _ h1,h2,D⟩
def T2 (rd:Bool) (ps:Ps) (aF:Shape) (l:List DS) (H:aG):Option (cv aF):=
 match Nat.beq aF.sl.length l.length&&od 0 aF.sl with
 |true=>match rd,aF with
  |true,⟨sl,[]⟩=>AJ (Nu H) (λt l=>pF (lV (sB H 3) t l)) (uG 0 l) sl ()
  |true,_=>none
  |false,aF=>proj (OC ps) (λj=>(lk ps j).bind (aj H)) aF ⟨uG 0 l,H⟩
 |false=>none
def wX (ps:Ps) (H H1:aG) (K:aG->Option R):Option R:=match uB (a0j ps) H H1 (a0j ps) with|some A=>K A |none=>none
def pk (P:Program) (f:FuncId) (l:List DS) (ow rd:Bool) (ps:Ps) (H:aG) (K:DS->aG->Option R) (KP:Value->aG->Option R):List (dh P)->Option R
 |[]=>none
 |g::r=>match Nat.beq g.f f&&(ow||(g.aF.hp.isEmpty&&ar9 g.outs)) with
  |false=>pk P f l ow rd ps H K KP r
  |true=>match T2 (rd&& !ow) ps g.aF l H with
   |none=>pk P f l ow rd ps H K KP r
   |some x=>only (OF P f&&Bi ps&&(ps.all λp=>kt H p.2||eC (g.aF.hp.map (·.1)) p.1)&&(a0j ps).all λp=> !a0c p.2) (match rd&& !ow with
    |true=>only (asm g.outs) (g.F R x λo=>Gv g.outs o (λsh v=>K (sr (mkD sh v).sl) H) λ_ _ _=>none)
    |false=>g.F R x λo=>Gv g.outs o (λsh v=>wX ps H (mkD sh v).hp (K (sw (rA (a0j ps) H) (sr (mkD sh v).sl)))) λD sh v=>wX ps H (mkD sh v).hp (KP D))
end
def Ic (P:Program) (o:Oper) (σ:cG) (H:aG) (D:Value) (H':aG):Prop:=
 ∀(E:cQ) (c:Cx) (h:Hp) (w:World) (a:Act) (N:Act->World->Prop) (Q:Exit->Act->World->Prop),Conc E c h w->Sub H h->(∀k,aj H k=none->aj H' k≠none->h k=none)->(∀x∈o.op.operands,∀d,bB σ x=some d->SR c h w (a.eval x) d)->
  (∀w' c',Conc E c' (bC h (aj H')) w'->eN c h w c' (bC h (aj H')) w'->Q (.panic (F9 D)) a w')->o.wp P a w N Q
theorem mkH_mem {X:Type}: ∀{l:List (Nat×SO)} {v:VH X l} {k:Nat} {o:aX},(k,o)∈(mkH l v).1->k∈l.map (·.1)/\ ∀hs ty wd,cU o=some (hs,ty,wd)->hs=[]
 |[],v,k,o,h=>by cases h
 |p::r,v,k,o,h=>by
  have h:=h;rcases ai3.1 h with h |h
  · injection h with h1 h2;subst h1;subst h2;obtain⟨q,s⟩:=p;refine⟨am5,λhs ty wd e=>?_⟩;cases s<;>first |(cases e;done) |(injection e with e;injection e with e;exact e.symm)
  · obtain⟨h1,h2⟩:=mkH_mem h;grind
def Cm (x:DC):Prop:=(∃b,x=.kb b)\/ ∃t d,x=.v t d/\kv t=true
def HZ:DS->Prop
 |.c x=>Cm x
 |.agg l=> ∀x∈l,Cm x
 |_=>False
section
variable {c c':Cx} {h h':Hp} {w w':World}
theorem TN {u:Value} {x:DC} (F:Cm x) (hu:CR c h w u x):CR c' h' w' u x:=by
 rcases F with⟨b,rfl⟩ |⟨t,d,rfl,D⟩
 · exact hu
 · refine⟨hu.1,?_⟩;have h2:=hu.2;have h1:=hu.1;cases t<;>first |exact h2 |(cases D;done) |(cases h1;done)
theorem acd {us:List Value} {l:List DC} (J: ∀x∈l,Cm x) (hu:ay (CR c h w) us l):ay (CR c' h' w') us l:=ay.of hu.len λi u x h1 h2=>by obtain⟨L,D,F⟩:=hu.get h2;rw[h1] at D;cases D;exact TN (J _ (List.mem_of_getElem? h2)) F
theorem arH {u:Value} {x:DS} (D:HZ x) (hu:SR c h w u x):SR c' h' w' u x:=by
 cases x with
 |c x=>exact TN D hu
 |agg l=>obtain⟨vs,e,h1⟩:=hu;exact⟨vs,e,acd D h1⟩
 |_=>exact D.elim
theorem arG {u:Value} {x:DS} (D:HZ x) (hu:UR c h w u (xJ x)):UR c' h' w' u (xJ x):=by
 cases x with
 |c x=>exact TN D hu
 |agg l=>obtain⟨vs,e,h1⟩:=hu;exact⟨vs,e,acd D h1⟩
 |_=>exact D.elim
theorem arI {u:Value} {l:cG} (D: ∀p∈l,HZ p.2) (hu:SR c h w u (sr l)):SR c' h' w' u (sr l):=by
 have fk: ∀{q:cG},(∀p∈q,HZ p.2)->SR c h w u (.fk (q.map λp=>xJ p.2))->SR c' h' w' u (.fk (q.map λp=>xJ p.2)):=λ{q} N ⟨vs,e,h1⟩=>⟨vs,e,ay.of h1.len λi v x h2 F=>by obtain⟨v',J,L⟩:=h1.get F;rw[h2] at J;cases J;rw[ax1,Option.map_eq_some_iff] at F;obtain⟨p,M,rfl⟩:=F;exact arG (N p (List.mem_of_getElem? M)) L⟩
 match l,D,hu with
 |[],D,hu=>exact fk D hu
 |[p],D,hu=>exact arH (D p am5) hu
 |p::q::r,D,hu=>exact fk D hu
end
theorem Sq: ∀{t:Ty} {d:den t},kv t=true-> ∀x∈cA t d,Cm x
 |.pair a b,d,h,x,D=>by
  have h:(kv a&&kv b)=true:=h;rw[ad0] at h;have D:=D;rcases ae5.1 D with D |D
  · exact Sq h.1 x D
  · exact Sq h.2 x D
 |.unit,_,_,x,D=>by cases D
 |.int k,_,_,x,D=>by rw[ah3.1 D];exact .inr ⟨_,_,rfl,rfl⟩
 |.bool,_,_,x,D=>by rw[ah3.1 D];exact .inr ⟨_,_,rfl,rfl⟩
 |.str,_,_,x,D=>by rw[ah3.1 D];exact .inr ⟨_,_,rfl,rfl⟩
 |.gB k,_,_,x,D=>by rw[ah3.1 D];exact .inr ⟨_,_,rfl,rfl⟩
 |.val,_,_,x,D=>by rw[ah3.1 D];exact .inr ⟨_,_,rfl,rfl⟩
 |.sl _,_,h,_,_=>by cases h
 |.ptr _,_,h,_,_=>by cases h
 |.opt _,_,h,_,_=>by cases h
theorem acb {X:Type}: ∀{l:List Sh} {v:VL X l},l.all TM=true-> ∀x∈(mkL l v).1,Cm x
 |[],_,_,x,D=>by cases D
 |s::r,v,h,x,D=>by
  rw[at1,ad0] at h;have D:=D;rcases ai3.1 D with D |D
  · subst D;have h1:=h.1;cases s<;>first |(exact Bool.noConfusion h1) |exact .inr ⟨_,_,rfl,h1⟩ |exact .inl ⟨_,rfl⟩
  · exact acb h.2 x D
theorem abr {X:Type}: ∀{l:List (Nat×SS)} {v:p4 X l},(l.all λq=>aca q.2)=true-> ∀p∈(mkSl l v).1,HZ p.2
 |[],_,_,x,D=>by cases D
 |q::r,v,h,x,D=>by
  rw[at1,ad0] at h;have D:=D;rcases ai3.1 D with D |D
  · subst D;have h1:=h.1;clear h D;obtain⟨k,s⟩:=q;cases s with
    |c s=>cases s<;>first |(exact Bool.noConfusion h1) |exact .inr ⟨_,_,rfl,h1⟩ |exact .inl ⟨_,rfl⟩
    |agg l=>exact acb h1
    |st t=>exact Sq h1
    |fn=>cases h1
  · exact abr h.2 x D
theorem abM {c c':Cx} {h h':Hp} {w:World} {q:List (Nat×SS)} {X:Type} {v:p4 X q} {l:List DS} (N:q.length=l.length) (hk:od 0 q=true) (hs: ∀t u,SR c h w u (bU (uG 0 l) t)->SR c' h' w u (bU (mkSl q v).1 t)) {vals:List Value} (L:ay (SR c h w) vals l):ay (SR c' h' w) vals ((mkSl q v).1.map (·.2)):=by
 have J:=mkSl_keys q v;have hlen:(mkSl q v).1.length=q.length:=by have:=congrArg List.length J;grind
 refine ay.of (by rw[L.len,ae2,hlen,N]) λi u d h1 h2=>?_
 rw[ax1,Option.map_eq_some_iff] at h2;obtain⟨p,h2,rfl⟩:=h2;have F:i<l.length:=by have:=(as4.1 h2).1;omega
 obtain⟨O,D,M⟩:=L.get (ae6 F);rw[h1] at D;cases D;rw[<-Sk hk J h2];exact hs _ _ (aaT (ae6 F)▸M)
theorem alK {rd:Bool} {ps:Ps} {aF:Shape} {l:List DS} {H:aG} {x:cv aF} (h:T2 rd ps aF l H=some x):aF.sl.length=l.length/\od 0 aF.sl=true/\(rd=false->proj (OC ps) (λj=>(lk ps j).bind (aj H)) aF ⟨uG 0 l,H⟩=some x)/\
  (rd=true->(mkD aF x).hp=[]/\ ∃y:p4 Unit aF.sl,(mkSl aF.sl y).1=(mkD aF x).sl/\AJ (Nu H) (λt l=>pF (lV (sB H 3) t l)) (uG 0 l) aF.sl ()=some y):=by
 unfold T2 at h;split at h<;>try (cases h;done)
 rename_i hk;rw[ad0] at hk;refine⟨al2 hk.1,hk.2,?_⟩;obtain⟨sl,hp⟩:=aF;cases rd with
 |false=>grind
 |true=>
  cases hp with
  |nil=>exact⟨λe=>(by grind),λ_=>⟨rfl,x,rfl,h⟩⟩
  |cons=>grind
theorem RL {P:Program} {o:Oper} {a:Act} {w:World} {N:Act->World->Prop} {Q:Exit->Act->World->Prop} {f:FuncId} {vals:Array Value} (h:(execOp a.eval o).run P w=.ok (.enter f vals) w) (hc:Calls P f vals w λe w'=>match e with|.returned v=>N (a.put o.dst v) w' |.panicked D=>Q (.panic D) a w' |.outgrown=>False):o.wp P a w N Q:=by unfold Oper.wp;rw[h];exact hc.mono λe w' he=>by cases e<;>first |exact he |exact he.elim
section
variable {R:Type} {y:R} {P:Program} {H:aG} {σ:cG} {dst:Option Tmp} {ty0:TypeId} {pos:String} {af:Array Edge} {gd:Option (Nat×Bool)}
theorem SE {f:FuncId} {yo:Operand} {xs:List Operand} {a b:List DC} {l:List DS} {ats:Array TypeId} {ow rd:Bool} {ps:Ps} {K:DS->aG->Option R} {KP:Value->aG->Option R} (hy:Nq σ yo=some (f,a,b)) (hl:M8 σ a xs b=some l): ∀{G:List (dh P)},pk P f l ow rd ps H K KP G=some y->
  (∃v H',K v H'=some y/\St P ⟨dst,.call {callee:=.value yo,args:=xs.toArray,argTypes:=ats},ty0,pos,af,gd⟩ σ H v H')\/(∃pv H',KP pv H'=some y/\Ic P ⟨dst,.call {callee:=.value yo,args:=xs.toArray,argTypes:=ats},ty0,pos,af,gd⟩ σ H pv H')
 |[],h=>by cases h
 |g::r,h=>by
  unfold pk at h;split at h
  · exact SE hy hl h
  rename_i hb;rw[ad0] at hb;obtain rfl:=al2 hb.1;split at h
  · exact SE hy hl h
  rename_i x Z;obtain⟨h1,h⟩:=bL h;rw[ad0,ad0,ad0] at h1;obtain⟨⟨⟨hG,h1⟩,bp⟩,b1⟩:=h1;have hW: ∀j k,(j,k)∈a0j ps->a0c k=false:=λj k e=>by simpa using ao3.1 b1 _ e
  have fm:=g.fm;unfold pB at fm;rw[ad0,ad0] at fm;obtain⟨⟨a1,b6⟩,b8⟩:=fm;obtain⟨hlen,aE,b4,b5⟩:=alK Z;split at h
  · rename_i av;obtain⟨b2,x1,b3,Z⟩:=b5 av;obtain⟨a8,h⟩:=bL h;obtain⟨o,ho,hc⟩:=g.ok _ _ _ _ h;rcases Lw ho with⟨sh,v,hm,he,J⟩ |⟨sh,pv,v,hm,he,J⟩
    · refine .inl ⟨_,_,J,λE c h w A N Q hC hs ah Y hN=>?_⟩;obtain⟨vals,O,U⟩:=aaP (g:=gd) (dst:=dst) (ty0:=ty0) (pos:=pos) (af:=af) hG hy hl Y;refine RL O ?_
      obtain⟨p1,_⟩:=Rn (ks:=g.aF.hp.map (·.1)) (Q:=CR c h w) (Q':=CR (cb c h) eU w) (c:=c) (h:=h) (w:=w) (c':=cb c h) (h':=eU) (w':=w) (pc:=Nu H) (λX s d x v a7 hp=>by
       unfold Nu at hp;split at hp
       · split at hp<;>try (cases hp;done)
         rename_i az;split at hp<;>try (cases hp;done)
         rename_i q hq;cases hp;exact⟨λu hu=>abH hC hs _ _ _ _ _ az hq hu,rfl⟩
       · exact ZN hs (ks:=g.aF.hp.map (·.1)) ⟨λk k' e=>(by grind),λb i v h1 h2=>⟨Or.inl h1,h2⟩⟩ a7 hp) (λ_ _ h=>h) (λ_ _ h=>h) (λt q d us hj hu=>by obtain⟨l1,e,h3⟩:=FL (Q:=CR c h w) (Q':=CR (cb c h) eU w) (λt x d v az Z hv=>abH hC hs _ t x d v az Z hv) t (Fl hj);rw[ag5] at e;subst e;exact h3 us hu) (ZG a1).1 Z
      have ar:Conc (dW w (cb c h) eU) (cb c h) eU w:=by
       have nb: ∀k b,¬Bl (cb c h) eU k b:=λk b ⟨⟨o,e⟩,_⟩=>by cases e
       refine⟨λk o e=>(by cases e),λk k' b e=>(nb _ _ e).elim,λk b i e=>(nb _ _ e).elim,λb i e=>?_,dW.nE (λk k' b e=>(nb _ _ e).elim) (λk b i e=>(nb _ _ e).elim) (λk b e=>(nb _ _ e).elim) hC.Oz,λ_ _ q=>q,λ_ _ q=>.inl q,λk b e=>(nb _ _ e).elim,Ext.refl _ _,λk o e=>?_⟩
       · exact e.elim (hC.lt b i) λ⟨k,q⟩=>hC.blt q
       · have e:(if 1000<=k/\k<3000 then none else none)=some o:=e
         split at e<;>cases e
      rw[b2] at hc;refine(hc (cb c h) w vals ar (by rw[<-b3];exact abM hlen aE p1 U)).mono λe w' F=>?_
      obtain⟨c1,F⟩:=F;rw[he] at F;obtain⟨v1,rfl,g1,g2⟩:=F;have bb:iB w w':=g1.ext.mono λb ⟨k,_,⟨o,e⟩,_⟩=>by cases e
      obtain⟨q1,q2⟩:=hC.same bb;rw[bC.self hs] at hN;refine hN v1 w' c q1 q2 (arI (abr ?_) g2);exact ao3.1 a8 _ hm
    · cases J
  · rename_i av;have Z:=b4 av;obtain⟨o,ho,hc⟩:=g.ok _ _ _ _ h
    have key: ∀{E:cQ} {c:Cx} {h:Hp} {w:World} {a':Act},Conc E c h w->Sub H h->(∀x∈(Op.call {callee:=.value yo,args:=xs.toArray,argTypes:=ats}).operands,∀d,bB σ x=some d->SR c h w (a'.eval x) d)->
      ∃vals:List Value,(execOp a'.eval ⟨dst,.call {callee:=.value yo,args:=xs.toArray,argTypes:=ats},ty0,pos,af,gd⟩).run P w=.ok (.enter g.f vals.toArray) w/\
       (Calls P g.f vals.toArray w λe w'=> ∃c',ve (dW w (c0 ps c) (aj (mkD g.aF x).hp)) e c' w' (mQ g.outs o))/\
       ∀{H1 A:aG} {c1:Cx} {w':World},uB (a0j ps) H H1 (a0j ps)=some A->(∀k,aj H k=none->aj A k≠none->h k=none)->Conc (dW w (c0 ps c) (aj (mkD g.aF x).hp)) c1 (aj H1) w'->(∀k o,(k,o)∈H1-> ∀hs ty wd,cU o=some (hs,ty,wd)->hs=[])->
        ∃c',Conc E c' (bC h (aj A)) w'/\eN c h w c' (bC h (aj A)) w'/\ ∀u x,CR c1 (aj H1) w' u x->CR c' (bC h (aj A)) w' u (rA (a0j ps) H x):=by
     intro E c h w a' hC hs Y;obtain⟨vals,O,U⟩:=aaP (g:=gd) (dst:=dst) (ty0:=ty0) (pos:=pos) (af:=af) hG hy hl Y;obtain⟨p1,p2,p3⟩:=abd hs a1 Z (λk o e=>by obtain⟨k',D,L⟩:=at8.1 e;exact⟨k',hs _ _ L,λq _ hq=>by rw[ab4] at hq;rw[hq] at D;injection D⟩) (c:=c) (c':=c0 ps c) (w:=w) (λk k' _ e=>by unfold c0;simp[ab4.1 e]) λ_ _ _ h1 h2=>⟨h1,h2⟩
     have ob: ∀j o',aj (mkD g.aF x).hp j=some o'-> ∃k o,lk ps j=some k/\aj H k=some o/\nG o o'/\ ∀us,ay (CR c h w) us (dM o)->ay (CR (c0 ps c) (aj (mkD g.aF x).hp) w) us (dM o'):=λj o' e=>by obtain⟨o,D,L,M⟩:=p1 j o' e;obtain⟨k,e6,e7⟩:=at8.1 D;exact⟨k,o,e6,e7,L,M⟩
     have ar:=hC.enter (h0:=aj (mkD g.aF x).hp) h1 λj o' e=>by obtain⟨k,o,D,L,M,e6⟩:=ob j o' e;exact⟨k,o,D,hs _ _ L,M.obj (by unfold c0;simp[D]) e6 (hC.obj k o (hs _ _ L))⟩
     refine⟨vals,O,hc (c0 ps c) w vals ar (abM hlen aE p3 U),λ{H1 A c1 w'} hb hn a6 b0=>?_⟩;have an:=h1;unfold Bi at an;rw[ad0] at an;refine hC.back h1 (λj o' e=>by obtain⟨k,o,D,L,M,_⟩:=ob j o' e;exact⟨k,o,D,hs _ _ L,M⟩) hs (λj k hj o e=>?_) (λj k hj bx e=>?_) hW hb a6 (λj o1 e=>b0 j o1 (Ah e)) λj o' e=>?_
     · have:=ao3.1 bp _ (r7 hj);rw[at3] at this;rcases this with q |q
       · unfold kt at q;rw[show aj H (j,k).2=some o from e] at q;cases q
       · obtain⟨o',D⟩:=au8.1 (p2 j q);obtain⟨k',o2,L,M,e6,_⟩:=ob j o' D;rw[hj] at L;cases L;rw[e] at M;cases M;exact⟨o',D,e6⟩
     · obtain⟨q1,_⟩:=SG (a3H an.2) hb;obtain⟨o1,b7,_,_,D⟩:=q1 j k (a2D.2 ⟨r7 hj,bx⟩);exact hn k e (by grind)
     · obtain⟨q,_⟩:=mkH_mem (Ah e);obtain⟨p,q1,q2⟩:=ar1.1 q;have:=ao3.1 b6 p q1;rw[q2] at this;simpa using this
    rcases Lw ho with⟨sh,v,hm,he,J⟩ |⟨sh,pv,v,hm,he,J⟩
    · unfold wX at J;split at J<;>try (cases J;done)
      rename_i A hA;refine .inl ⟨_,_,J,λE c h w a' N Q hC hs ah Y hN=>?_⟩;obtain⟨vals,O,U,D⟩:=key hC hs Y;refine RL O (U.mono λe w' F=>?_);obtain⟨c1,F⟩:=F;rw[he] at F;obtain⟨v1,rfl,g1,g2⟩:=F;obtain⟨c',g3,g4,g5⟩:=D hA ah g1 λk o hm=>(mkH_mem hm).2;exact hN v1 w' c' g3 g4 (abg g5 g2)
    · unfold wX at J;split at J<;>try (cases J;done)
      rename_i A hA;refine .inr ⟨_,_,J,λE c h w a' N Q hC hs ah Y hN=>?_⟩;obtain⟨vals,O,U,D⟩:=key hC hs Y;refine RL O (U.mono λe w' F=>?_);obtain⟨c1,F⟩:=F;rw[he] at F;obtain⟨rfl,g1⟩:=F;obtain⟨c',g3,g4,g5⟩:=D hA ah g1 λk o hm=>(mkH_mem hm).2;exact hN w' c' g3 g4
end
inductive KS where
 |i (l:List Nat)
 |o (l:List Nat)
def KS.has:KS->Nat->Bool
 |.i l,k=>eC l k
 |.o l,k=> !eC l k
def KS.jX:KS->KS->Bool
 |.i l,s=>l.all λk=> !s.has k
 |.o l,.i q=>q.all λk=>eC l k
 |.o _,.o _=>false
theorem KS.arM {s t:KS} (h:s.jX t=true) {k:Nat} (h1:s.has k=true) (h2:t.has k=true):False:=by
 unfold KS.jX at h;split at h
 · have:=ao3.1 h k (tS.1 h1);grind
 · have:=ao3.1 h k (tS.1 h2);have h1:(!eC _ k)=true:=h1;grind
 · grind
structure Ky where
 wr:Bool
 dK:Bool
 S:KS
 R:List Nat
def Ky.p:Ky:=⟨false,false,.i [],[]⟩
def Ky.q (R:List Nat):Ky:=⟨false,false,.i R,[]⟩
def Ky.u (W:List Nat) (b:Bool):Ky:=⟨true,b,.i W,[]⟩
def Ky.n (d:Nat):Ky:=⟨true,false,.i [d],[]⟩
def Ky.w:Ky:=⟨true,false,.o [],[]⟩
def Ky.r (W R:List Nat) (b:Bool):Ky:=⟨true,b,.i (W++R),R⟩
def Ky.ro (κ:Ky) (k:Nat):Bool:= !κ.wr||eC κ.R k
def CK (κ ι:Ky):Prop:= ∀k,κ.S.has k=true->ι.S.has k=true->κ.ro k=true/\ι.ro k=true
def a2d (κ ι:Ky) (k:Nat):Bool:= !κ.S.has k|| !ι.S.has k||(κ.ro k&&ι.ro k)
def kRd (κ ι:Ky):Bool:=match κ.S with
 |.i l=>l.all (a2d κ ι)
 |.o _=>match ι.S with|.i l=>l.all (a2d κ ι) |.o _=>false
def HW (κ ι:Ky):Bool:=(!κ.wr&& !ι.wr)||κ.S.jX ι.S||kRd κ ι
abbrev SF:=Nat->DS
def iQ:DS->DS
 |.c (.kb b)=>.c (.v .bool b)
 |x=>x
theorem SR.iQ {c:Cx} {h:Hp} {w:World} {u:Value} {x:DS}:SR c h w u (iQ x)<->SR c h w u x:=by
 unfold Fx.iQ;split
 · exact⟨λh=>(show Value.bool _=u from h.2).symm,λh=>⟨rfl,(show u=_ from h).symm⟩⟩
 · rfl
theorem Zc {c:Cx} {h:Hp} {w:World} {v:Value} {x:DS} (D:TT v=some x):SR c h w v x:=by
 unfold TT at D;split at D<;>split at D<;>try (cases D;done)
 · rename_i cs _ l F;cases D;exact⟨cs.toList,rfl,AG F⟩
 · rename_i F;cases D;exact acu F
def gS (κ:Ky) (o:Oper) (σ:SF) (h:Hp) (σ0:cG) (H H':aG):Prop:=
 (∀t,.tmp t∈o.op.operands->iQ (bU σ0 t)=σ t)/\Sub H h/\(∀k,aj H k=none->aj H' k≠none->h k=none)/\(∀k,κ.S.has k=false->aj H k=none/\aj H' k=none)/\(∀k,κ.ro k=true->aj H' k=aj H k)
def qM (ops:Array Oper) (σ:SF) (o:Oper):Option Bool:=
 match o.guard with
 |none=>some true
 |some (j,want)=>match(ops[j]?).bind (·.dst) with
  |none=>some false
  |some d=>match σ d with
   |.c (.v .bool b)=>some (b==want)
   |.fk []=>some false
   |_=>none
def TL {α:Type} (n:Nat) (k:Nat->α):α:=match n with|0=>k 0 |m+1=>k (m+1)
theorem Y4 {α:Type} (n:Nat) (k:Nat->α):TL n k=k n:=by cases n<;>rfl
def dQ (M i:Nat):Nat:=(M>>>(256*i))%2 ^256
def T4 (M:Nat) (s:Nat) (e:Edge):Nat:=if Region.binds .any e then s|||2 ^e.on|||dQ M e.on else s
def ph:List Oper->Nat->Nat->Nat
 |[],_,M=>M
 |o::t,i,M=>TL (M|||((o.after.toList.foldl (T4 M) 0 %2 ^256)<<<(256*i))) λD=>ph t (i+1) D
def pH (M i x:Nat):Bool:=decide (x<256)&&M.testBit (256*i+x)
section
variable {P:Program} {ops:Array Oper} {ms:Nat} {κ ι:Ky} {o ox oi:Oper} {σ σ':SF} {h h':Hp} {σ0:cG} {H H':aG}
theorem gS.move (hf:gS κ o σ h σ0 H H') (h1: ∀t,.tmp t∈o.op.operands->σ' t=σ t) (h2: ∀k,κ.S.has k=true->h' k=h k):gS κ o σ' h' σ0 H H':=by
 obtain⟨g1,g2,g3,g4,g5⟩:=hf
 have hk: ∀k,(aj H k≠none\/aj H' k≠none)->h' k=h k:=λk e=>h2 k (by
  cases q:κ.S.has k with
  |true=>rfl
  |false=>obtain⟨J,L⟩:=g4 k q;rcases e with e |e;exact(e J).elim;exact(e L).elim)
 exact⟨λt F=>(g1 t F).trans (h1 t F).symm,λk o e=>(hk k (.inl (by grind))).trans (g2 k o e),λk e D=>(hk k (.inr D)).trans (g3 k e D),g4,g5⟩
theorem gS.still (hf:gS κ o σ h σ0 H H') (hu:κ.wr=false):bC h (aj H')=h:=by
 funext k;unfold bC;rw[hf.2.2.2.2 k (by unfold Ky.ro;rw[hu];rfl)]
 cases e:aj H k with
 |none=>rfl
 |some o=>rw[hf.2.1 k o e];rfl
theorem a3G {k:Nat} (h:a2d κ ι k=true) (h1:κ.S.has k=true) (h2:ι.S.has k=true):κ.ro k=true/\ι.ro k=true:=by grind[a2d]
theorem abj (hk:HW κ ι=true):CK κ ι:=by
 intro k h1 h2;unfold HW at hk;rw[at3,at3,ad0] at hk;rcases hk with(⟨a,b⟩ |hk) |hk
 · unfold Ky.ro;grind
 · exact(KS.arM hk h1 h2).elim
 · unfold kRd at hk;split at hk
   · rename_i l e;rw[e] at h1;exact a3G (ao3.1 hk k (tS.1 h1)) (e▸h1) h2
   · split at hk
     · rename_i l e;rw[e] at h2;exact a3G (ao3.1 hk k (tS.1 h2)) h1 (e▸h2)
     · grind
theorem aai (hk:CK κ ι):CK ι κ:=λk a b=>(hk k b a).symm
theorem gS.Nx (hf:gS κ o σ h σ0 H H') (hk:CK κ ι): ∀k,ι.S.has k=true->bC h (aj H') k=h k:=λk D=>by
 cases q:κ.S.has k with
 |true=>
  unfold bC;rw[hf.2.2.2.2 k (hk k q D).1];cases e:aj H k with
  |none=>rfl
  |some o=>rw[hf.2.1 k o e];rfl
 |false=>unfold bC;rw[(hf.2.2.2.1 k q).2];rfl
def Stl (κ:Ky) (h:Hp) (H':aG):Prop:=κ.wr=false\/ ∀k,aj H' k≠none->k<1000/\h k=none
def Uu (ms i:Nat) (x:Option Nat) (b:Bool):Prop:=match x with|some p=>pH ms i p=b |none=>b=false
def S1 (P:Program) (ops:Array Oper) (ms:Nat) (x:Option Nat) (X:Nat×Ky) (σ:SF) (h:Hp) (σ':SF) (h':Hp):Prop:=
 (Uu ms X.1 x true/\σ'=σ/\h'=h)\/(Uu ms X.1 x false/\ ∃o,ops[X.1]? =some o/\((qM ops σ o=some true/\ ∃σ0 H v H',gS X.2 o σ h σ0 H H'/\St P o σ0 H v H'/\(x≠none->Stl X.2 h H')/\σ'=im σ o.dst (iQ v)/\h'=bC h (aj H'))\/(qM ops σ o=some false/\σ'=im σ o.dst (.fk [])/\h'=h)))
def Pn (P:Program) (ops:Array Oper) (X:Nat×Ky) (σ:SF) (h:Hp) (D:Value) (h':Hp):Prop:=
 X.2.dK=true/\ ∃o,ops[X.1]? =some o/\qM ops σ o=some true/\ ∃σ0 H H',gS X.2 o σ h σ0 H H'/\Ic P o σ0 H D H'/\h'=bC h (aj H')
def jb (P:Program) (ops:Array Oper) (ms:Nat):Option Nat->List (Nat×Ky)->SF->Hp->(SF->Hp->Prop)->(Value->Hp->Prop)->Prop
 |_,[],σ,h,K,_=>K σ h
 |x,X::r,σ,h,K,KP=>(∃σ' h',S1 P ops ms x X σ h σ' h'/\jb P ops ms x r σ' h' K KP)\/(x=none/\ ∃D h',Pn P ops X σ h D h'/\KP D h'/\jb P ops ms (some X.1) r σ h (λ_ _=>True) λ_ _=>False)
def Nb (KP:Value->Hp->Prop):Prop:= ∀v h h',KP v h->(∀k o,h k=some o->h' k=some o)->(∀k,h k=none->h' k≠none->k<1000)->KP v h'
theorem wo {d:Option Nat} {v:DS} {t:Nat} (h:d≠some t):im σ d v t=σ t:=by
 cases d with
 |none=>rfl
 |some d=>exact iG λe=>h (by rw[e])
theorem Le {d e:Option Nat} {v u:DS} (h: ∀t,d=some t->e≠some t):im (im σ d v) e u=im (im σ e u) d v:=by
 funext t;by_cases h1:e=some t
 · subst h1;rw[wo (d:=d) λq=>h t q rfl];show bY _ t u t=bY _ t u t;rw[gl,gl]
 · rw[wo h1];cases d with
   |none=>rw[show im (im σ e u) none v=im σ e u from rfl,wo h1];rfl
   |some d=>
    show bY σ d v t=bY _ d v t;by_cases h2:t=d
    · grind[gl]
    · rw[iG h2,iG h2,wo h1]
theorem wB {d:Option Tmp} {v:DS} (h: ∀x,d=some x->x∉o.looksAt ops): ∀t,.tmp t∈o.op.operands->im σ d v t=σ t:=λt D=>wo λe=>h t e (List.mem_append_left _ (List.mem_filterMap.2 ⟨.tmp t,Array.mem_toList_iff.2 D,rfl⟩))
theorem tK {d:Option Tmp} {v:DS} (h: ∀x,d=some x->x∉o.looksAt ops):qM ops (im σ d v) o=qM ops σ o:=by
 unfold qM;split
 · rfl
 · rename_i j want J;cases F:(ops[j]?).bind (·.dst) with
   |none=>rfl
   |some e=>simp[wo (σ:=σ) (d:=d) (v:=v) (t:=e) λD=>h e D (List.mem_append_right _ (by grind))]
theorem aoR {H1 D:aG} (F: ∀k,aj H1 k≠none->aj D k≠none->aj H1 k=aj D k):bC (bC h (aj H1)) (aj D)=bC (bC h (aj D)) (aj H1):=by
 funext k;have:=F k;unfold bC;cases J:aj H1 k<;>cases L:aj D k<;>try rfl
 grind
theorem gS.OB {τ:SF} {τ0:cG} {G D:aG} (hf:gS κ ox σ h σ0 H H') (L:gS ι oi τ h τ0 G D) (hk:CK κ ι):bC (bC h (aj H')) (aj D)=bC (bC h (aj D)) (aj H'):=aoR λk F J=>by
 have O:κ.S.has k=true:=by
  cases q:κ.S.has k with
  |true=>rfl
  |false=>exact(F (hf.2.2.2.1 k q).2).elim
 have a2:ι.S.has k=true:=by
  cases q:ι.S.has k with
  |true=>rfl
  |false=>exact(J (L.2.2.2.1 k q).2).elim
 obtain⟨U,Y⟩:=hk k O a2;rw[hf.2.2.2.2 k U] at F⊢;rw[L.2.2.2.2 k Y] at J⊢;obtain⟨Z,M⟩:=Option.ne_none_iff_exists'.1 F;obtain⟨o2,N⟩:=Option.ne_none_iff_exists'.1 J;rw[M,N,<-hf.2.1 k Z M,<-L.2.1 k o2 N]
variable {x:Option Nat} {X I:Nat×Ky} {σ1 σ2:SF} {h1 h2:Hp}
theorem S1.swap (N:ops[X.1]? =some ox) (M:ops[I.1]? =some oi) (ha:ox.apart ops oi=true) (hk:HW X.2 I.2=true) (g1:S1 P ops ms x X σ h σ1 h1) (g2:S1 P ops ms x I σ1 h1 σ2 h2): ∃σm hm,S1 P ops ms x I σ h σm hm/\S1 P ops ms x X σm hm σ2 h2:=by
 obtain⟨Y,a2,a3⟩:=Oper.apart_spec ha;have ah:=abj hk;have an:=aai ah;rcases g1 with⟨D,rfl,rfl⟩ |⟨D,o1,Z,g1⟩
 · rcases g2 with⟨F,rfl,rfl⟩ |g2
   · exact⟨_,_,.inl ⟨F,rfl,rfl⟩,.inl ⟨D,rfl,rfl⟩⟩
   · exact⟨_,_,.inr g2,.inl ⟨D,rfl,rfl⟩⟩
 · rcases g2 with⟨F,rfl,rfl⟩ |⟨F,o2,e2,g2⟩
   · exact⟨_,_,.inl ⟨F,rfl,rfl⟩,.inr ⟨D,o1,Z,g1⟩⟩
   rw[N] at Z;cases Z;rw[M] at e2;cases e2;rcases g1 with⟨O,τ,H,v,H',f1,s1,t1,rfl,rfl⟩ |⟨O,rfl,rfl⟩<;>rcases g2 with⟨L,τ2,G,u,U,f2,s2,t2,rfl,rfl⟩ |⟨L,rfl,rfl⟩<;>rw[tK Y] at L
   · have f3:=f2.move (λt J=>(wB Y t J).symm) λk q=>(f1.Nx ah k q).symm;have f4:gS X.2 ox (im σ oi.dst (iQ u)) (bC h (aj U)) τ H H':=f1.move (λt J=>wB a3 t J) (f3.Nx an);refine⟨_,_,.inr ⟨F,oi,M,.inl ⟨L,τ2,G,u,U,f3,s2,λq=>?_,rfl,rfl⟩⟩,.inr ⟨D,ox,N,.inl ⟨by rw[tK a3];exact O,τ,H,v,H',f4,s1,λq=>?_,Le a2,f1.OB f3 ah⟩⟩⟩
     · rcases t2 q with t |t
       · exact .inl t
       · refine .inr λk e=>⟨(t k e).1,?_⟩;have:=(t k e).2;unfold bC at this;cases e2:aj H' k with
         |none=>grind
         |some o=>grind
     · rcases t1 q with t |t
       · exact .inl t
       · refine .inr λk e=>⟨(t k e).1,?_⟩
         rw[f3.Nx (ι:=X.2) an k (by
          cases q:X.2.S.has k with
          |true=>rfl
          |false=>exact(e (f1.2.2.2.1 k q).2).elim)]
         grind
   · exact⟨_,_,.inr ⟨F,oi,M,.inr ⟨L,rfl,rfl⟩⟩,.inr ⟨D,ox,N,.inl ⟨by rw[tK a3];exact O,τ,H,v,H',f1.move (λt J=>wB a3 t J) λ_ _=>rfl,s1,t1,Le a2,rfl⟩⟩⟩
   · exact⟨_,_,.inr ⟨F,oi,M,.inl ⟨L,τ2,G,u,U,f2.move (λt J=>(wB Y t J).symm) λ_ _=>rfl,s2,t2,rfl,rfl⟩⟩,.inr ⟨D,ox,N,.inr ⟨by rw[tK a3];exact O,Le a2,rfl⟩⟩⟩
   · exact⟨_,_,.inr ⟨F,oi,M,.inr ⟨L,rfl,rfl⟩⟩,.inr ⟨D,ox,N,.inr ⟨by rw[tK a3];exact O,Le a2,rfl⟩⟩⟩
theorem jb.swap {K:SF->Hp->Prop} {KP:Value->Hp->Prop} {R:List (Nat×Ky)} (ar:Nb KP) (N:ops[X.1]? =some ox) (M:ops[I.1]? =some oi) (ha:ox.apart ops oi=true) (hk:HW X.2 I.2=true) (hp:I.2.dK=true->X.2.wr=false) (av:pH ms X.1 I.1=false) (az:pH ms I.1 X.1=false)
  (F:jb P ops ms x (X::I::R) σ h K KP):jb P ops ms x (I::X::R) σ h K KP:=by
 obtain⟨a1,a2,a3⟩:=Oper.apart_spec ha;have ah:=abj hk;have aE:=aai ah;rcases F with⟨σ1,h1,g1,⟨σ2,h2,g2,F⟩ |⟨rfl,pv,h2,⟨p1,o2,e2,U,τ2,G,D,f2,s2,rfl⟩,an,F⟩⟩ |⟨rfl,pv,h1,⟨p1,o1,e1,O,Y,H,H',f1,s1,rfl⟩,an,F⟩
 · obtain⟨σm,hm,q1,q2⟩:=g1.swap N M ha hk g2;exact .inl ⟨σm,hm,q1,.inl ⟨σ2,h2,q2,F⟩⟩
 · rw[M] at e2;cases e2;have hu:=hp p1;rcases g1 with⟨Z,_⟩ |⟨Z,o1,e1,g1⟩
   · cases Z
   rw[N] at e1;cases e1
   have key:h1=h/\ ∃v,σ1=im σ ox.dst v:=by
    rcases g1 with⟨O,Y,H,v,H',f1,s1,t1,rfl,rfl⟩ |⟨O,rfl,rfl⟩
    · exact⟨f1.still hu,_,rfl⟩
    · exact⟨rfl,_,rfl⟩
   obtain⟨rfl,v,rfl⟩:=key;rw[tK a1] at U;refine .inr ⟨rfl,pv,_,⟨p1,oi,M,U,τ2,G,D,f2.move (λt ht=>(wB a1 t ht).symm) λ_ _=>rfl,s2,rfl⟩,an,.inl ⟨_,_,.inr ⟨av,ox,N,?_⟩,F⟩⟩;rcases g1 with⟨O,Y,H,v',H',f1,s1,t1,q⟩ |g1
   · exact .inl ⟨O,Y,H,v',H',f1,s1,λ_=>.inl hu,q⟩
   · exact .inr g1
 · rw[N] at e1;cases e1;rcases F with⟨σ1,h1,g1,F⟩ |⟨e,_⟩
   · rcases g1 with⟨Z,_⟩ |⟨Z,o2,e2,g2⟩
     · rw[show pH ms I.1 X.1=true from Z] at az;grind
     rw[M] at e2;cases e2;rcases g2 with⟨U,τ2,G,u,D,f2,s2,t2,rfl,rfl⟩ |⟨U,rfl,rfl⟩
     · have f4:gS X.2 ox (im σ oi.dst (iQ u)) (bC h (aj D)) Y H H':=f1.move (λt ht=>wB a3 t ht) (f2.Nx aE);refine .inl ⟨_,_,.inr ⟨rfl,oi,M,.inl ⟨U,τ2,G,u,D,f2,s2,λq=>(q rfl).elim,rfl,rfl⟩⟩,.inr ⟨rfl,pv,_,⟨p1,ox,N,by rw[tK a3];exact O,Y,H,H',f4,s1,rfl⟩,?_,F⟩⟩
       rw[<-f1.OB f2 ah];refine ar _ _ _ an (λk o e=>?_) λk e e'=>?_
       · show(aj D k).or (bC h (aj H') k)=some o;cases L:aj D k with
         |none=>grind
         |some og=>
          rcases t2 (λq=>nomatch q) with t |t
          · have J:bC h (aj D) k=h k:=by rw[f2.still t]
            unfold bC at J;rw[L] at J;have a6:aj H' k=none\/aj H' k≠none:=by cases aj H' k<;>simp
            rcases a6 with q |q
            · unfold bC at e;rw[q] at e;exact J.trans e
            · have:=f1.OB f2 ah;have:=congrFun this k;unfold bC at this e;obtain⟨oh,q⟩:=Option.ne_none_iff_exists'.1 q;rw[L,q] at this;rw[q] at e;exact this.trans e
          · have h3:=(t k (by grind)).2
            unfold bC at e;cases eh:aj H' k with
            |none=>rw[eh,h3] at e;cases e
            |some oh=>have:=congrFun (f1.OB f2 ah) k;unfold bC at this;rw[L,eh] at this;rw[eh] at e;exact this.trans e
       · have e':(aj D k).or (bC h (aj H') k)≠none:=e';rw[e] at e';have L:aj D k≠none:=λq=>by rw[q] at e';exact e' rfl
         rcases t2 (λq=>nomatch q) with t |t
         · have J:bC h (aj D) k=h k:=by rw[f2.still t]
           unfold bC at J e;rw[Option.or_eq_none_iff] at e;rw[e.2,Option.or_eq_none_iff] at J;exact(L J.1).elim
         · exact(t k L).1
     · exact .inl ⟨_,_,.inr ⟨rfl,oi,M,.inr ⟨U,rfl,rfl⟩⟩,.inr ⟨rfl,pv,_,⟨p1,ox,N,by rw[tK a3];exact O,Y,H,H',f1.move (λt ht=>wB a3 t ht) λ_ _=>rfl,s1,rfl⟩,an,F⟩⟩
   · cases e
end
def r5 (ops:Array Oper) (ms:Nat) (x i:Nat×Ky):Bool:=
 match ops[x.1]?,ops[i.1]? with
 |some ox,some oi=>x.1 !=i.1&& !(ox.after.any λe=>Region.binds .any e&&e.on==i.1)&&((ox.apart ops oi&&HW x.2 i.2&&(!i.2.dK|| !x.2.wr)&& !pH ms x.1 i.1)||pH ms i.1 x.1)
 |_,_=>false
def rX (ops:Array Oper) (ms:Nat):List (Nat×Ky)->Bool
 |[]=>true
 |x::t=>t.all (r5 ops ms x)&&rX ops ms t
def MC (ops:Array Oper) (x:Nat×Ky):Bool:=
 match ops[x.1]? with
 |some o=>o.after.all (λe=> !Region.binds .any e||(e.on !=x.1&&e.on<ops.size))
 |none=>false
def calm (ops:Array Oper) (M:Nat) (order:List (Nat×Ky)):Bool:=
 rX ops M order&&(List.range ops.size).all (λi=>order.any (·.1==i))&&order.all (MC ops)
def F8 (n:Nat) (ops:Array Oper):Bool:=ops.toList.all λo=>match o.dst with|some d=>decide (d<n) |none=>true
section
variable {P:Program} {ops:Array Oper} {ms:Nat} {Q:Exit->Act->World->Prop}
theorem jb.front {I:Nat×Ky}: ∀(L D:List (Nat×Ky)) (x:Option Nat) (σ:SF) (h:Hp) (K:SF->Hp->Prop) (KP:Value->Hp->Prop),Nb KP->(∀y∈L,r5 ops ms y I=true)->(∀y∈L,pH ms I.1 y.1=false)->jb P ops ms x (L++I::D) σ h K KP->jb P ops ms x (I::(L++D)) σ h K KP
 |[],D,x,σ,h,K,KP,_,_,_,F=>F
 |X::t,D,x,σ,h,K,KP,N,hp,hm,F=>by
  have Y:=λy M=>hp y (as3 _ M);have O:=λy M=>hm y (as3 _ M)
  have h2:jb P ops ms x (X::I::(t++D)) σ h K KP:=by
   rcases F with⟨σ1,h1,g1,F⟩ |⟨e,pv,h1,g1,g2,F⟩
   · exact .inl ⟨σ1,h1,g1,jb.front t D _ _ _ _ _ N Y O F⟩
   · exact .inr ⟨e,pv,h1,g1,g2,jb.front t D _ _ _ _ _ (λ_ _ _ q=>q.elim) Y O F⟩
  have J:=hp X am5;have U:=hm X am5;unfold r5 at J;split at J
  · rename_i ox oi Z e2;rw[U] at J;simp[Bool.not_eq_true'] at J;obtain⟨_,⟨⟨q1,q2⟩,q3⟩,q4⟩:=J;exact h2.swap N Z e2 q1 q2 (λe=>by rw[e] at q3;grind) q4 U
  · grind
def acr (ops:Array Oper) (L:Nat->Prop):Prop:= ∀j,L j-> ∀o,ops[j]? =some o-> ∀e∈o.after,Region.binds .any e=true->L e.on
theorem aoA (M i k:Nat) (h:k<256):(dQ M i).testBit k=M.testBit (256*i+k):=by unfold dQ;rw[Nat.testBit_mod_two_pow,Nat.testBit_shiftRight,decide_eq_true h,Bool.true_and]
theorem anS (L:Nat->Prop) (M:Nat) (N: ∀x,L x-> ∀k,k<256->M.testBit (256*x+k)=true->L k): ∀(l:List Edge) (s:Nat),(∀e∈l,Region.binds .any e=true->L e.on)->(∀k,k<256->s.testBit k=true->L k)->
  ∀k,k<256->(l.foldl (T4 M) s).testBit k=true->L k:=by
 intro l
 induction l with
 |nil=>grind
 |cons e t J=>
  intro s he hs k h1 hk;rw[List.foldl_cons] at hk;refine J _ (λF h' D=>he F (as3 _ h') D) ?_ k h1 hk;intro k h1 hk;unfold T4 at hk;split at hk
  · rename_i D;have O:=he e am5 D;rw[Nat.testBit_or,Nat.testBit_or,at3,at3] at hk;rcases hk with(hk |hk) |hk
    · grind
    · grind
    · rw[aoA _ _ _ h1] at hk;grind
  · exact hs k h1 hk
theorem alX {L:Nat->Prop} (O:acr ops L): ∀(l:List Oper) (i M:Nat),(∀j,l[j]? =ops[i+j]?)->
  (∀j,(∀o,ops[j]? =some o-> ∀e∈o.after,Region.binds .any e=true->L e.on)-> ∀k,k<256->M.testBit (256*j+k)=true->L k)->
  ∀j,(∀o,ops[j]? =some o-> ∀e∈o.after,Region.binds .any e=true->L e.on)-> ∀k,k<256->(ph l i M).testBit (256*j+k)=true->L k:=by
 intro l
 induction l with
 |nil=>intro i M _ h;exact h
 |cons o t ih=>
  intro i M J U;unfold ph;rw[Y4];have h0:ops[i]? =some o:=by have:=J 0;grind
  refine ih _ _ (λj=>?_) (λj Y k h1 hk=>?_)
  · have:=J (j+1);grind
  · rw[Nat.testBit_or,at3] at hk;rcases hk with hk |hk
    · grind
    · rw[Nat.testBit_shiftLeft,ad0,Nat.testBit_mod_two_pow,ad0] at hk;obtain⟨h2,N,F⟩:=hk;have ah:=of_decide_eq_true h2;have an:=of_decide_eq_true N;have e:j=i:=by omega
      subst e;rw[show 256*j+k - 256*j=k by omega] at F
      exact anS L M (λx hx k h1 hk=>U x (λo Z e he D=>O x hx o Z e he D) k h1 hk) _ 0 (λe he D=>Y o h0 e (Array.mem_toList_iff.1 he) D) (λk _ hk=>by simp at hk) k h1 F
theorem aoL {a:Act} {d:Option Tmp} {v:Value} {n:Nat} (F:a.tmps.size=n) (D: ∀x,d=some x->x<n) (t:Nat):(a.put d v).tmps.getD t undef=if d=some t then v else a.tmps.getD t undef:=by
 cases d with
 |none=>rfl
 |some d=>
  simp[Act.put];have:=D d rfl;by_cases h:d=t
  · grind
  · grind
theorem Mh {c:Cx} {h:Hp} {w:World} {a:Act} {σ:SF} {d:Option Tmp} {val:Value} {v:DS} {n:Nat} (F:a.tmps.size=n) (D: ∀x,d=some x->x<n) (hs: ∀t,SR c h w (a.tmps.getD t undef) (σ t)) (J:SR c h w val v): ∀t,SR c h w ((a.put d val).tmps.getD t undef) (im σ d v t):=by
 intro t;rw[aoL F D];by_cases e:d=some t
 · subst e;rw[if_pos rfl];show SR c h w val (bY σ t v t);rw[gl];omega
 · rw[wo e];grind
theorem LU (a:Act) (d:Option Tmp) (v:Value):(a.put d v).tmps.size=a.tmps.size:=by cases d<;>simp [Act.put]
theorem put_defers (a:Act) (d:Option Tmp) (v:Value):(a.put d v).defers=a.defers:=by cases d<;>rfl
theorem LF {n:Nat} (h:F8 n ops=true) {i:Nat} {o:Oper} (D:ops[i]? =some o): ∀x,o.dst=some x->x<n:=by
 intro x F;have:=ao3.1 h o (by grind)
 grind
theorem RM {c:Cx} {h:Hp} {w:World} {a:Act} {σ:SF} {o:Oper} {b:Bool} (hs: ∀t,SR c h w (a.tmps.getD t undef) (σ t)) (hw:qM ops σ o=some b):Region.wanted o (yielded ops a.tmps)=b:=by
 unfold qM at hw;unfold Region.wanted;split at hw
 · grind
 · rename_i j want M;rw[M];simp only;unfold yielded;split at hw
   · grind
   · rename_i d L;rw[L];simp[Option.bind_some];have D:=hs d;rw[Array.getD_eq_getD_getElem?] at D;split at hw
     · rename_i N J;rw[J] at D;injection hw with hw;have e:=D.2;cases F:a.tmps[d]? with
       |none=>rw[F] at e;cases e
       |some u=>rw[F] at e;have e:=e;subst e;simp_all
     · rename_i J;rw[J] at D;injection hw with hw;obtain⟨vs,e,h2⟩:=D;cases h2;cases F:a.tmps[d]? with
       |none=>grind
       |some u=>rw[F] at e;have e:=e;subst e;simp only;rw[<-hw];rfl
     · cases hw
theorem aat {κ:Ky} {o:Oper} {σ:SF} {h:Hp} {σ0:cG} {H H':aG} (hf:gS κ o σ h σ0 H H') {c:Cx} {w:World} {a:Act} (hs: ∀t,SR c h w (a.tmps.getD t undef) (σ t)): ∀x∈o.op.operands,∀d,bB σ0 x=some d->SR c h w (a.eval x) d:=by
 intro x F d D;cases x with
 |tmp t=>cases D;have:=hs t;rw[<-hf.1 t F] at this;exact SR.iQ.1 this
 |const v=>exact Zc D
 |global g=>cases D
 |func f=>cases D;exact⟨[],[],rfl,.nil,.nil⟩
theorem amJ {n:Nat} {E:cQ} {κ:Ky} {o:Oper} {σ:SF} {h:Hp} {σ0:cG} {H H':aG} {v:DS} {a:Act} {w:World} (M: ∀x,o.dst=some x->x<n) (O:Told n E σ h a w) (hf:gS κ o σ h σ0 H H') (hs:St P o σ0 H v H') {N:Act->World->Prop} (L: ∀D w',Told n E (im σ o.dst (iQ v)) (bC h (aj H')) D w'->N D w'):o.wp P a w N Q:=by obtain⟨⟨c,h1,h2⟩,F,J⟩:=O;exact hs E c h w a N Q h1 hf.2.1 hf.2.2.1 (aat hf h2) λval w' c' g1 g2 g3=>L _ _ ⟨⟨c',g1,Mh F M (λt=>(h2 t).fL g2) (SR.iQ.2 g3)⟩,by rw[LU];exact F,by rw[put_defers];exact J⟩
theorem Yp {n:Nat} {E:cQ} {σ:SF} {h:Hp} {a:Act} {w:World} {d:Option Tmp} (J: ∀x,d=some x->x<n) (L:Told n E σ h a w):Told n E (im σ d (.fk [])) h (a.put d undef) w:=by obtain⟨⟨c,h1,h2⟩,D,F⟩:=L;exact⟨⟨c,h1,Mh D J h2 ⟨[],rfl,.nil⟩⟩,by rw[LU];exact D,by rw[put_defers];exact F⟩
theorem aaq {D:Array Bool} {j:Nat} (h:j<D.size):D.getD j false=D.getD j true:=by grind
structure Ci (ops:Array Oper) (listed:Array Bool) (R:List (Nat×Ky)):Prop where
 sz:listed.size=ops.size
 un: ∀j,j<ops.size->(listed.getD j true=false<-> ∃k,(j,k)∈R)
 sg:rX ops (ph ops.toList 0 0) R=true
 self: ∀x∈R,MC ops x=true
 closed:acr ops (λj=>listed.getD j false=true)
theorem Xt: ∀(F D:List (Nat×Ky)) (x:Nat×Ky),rX ops ms (F++x::D)=true->(∀y∈F,r5 ops ms y x=true)/\(∀y∈D,r5 ops ms x y=true)/\rX ops ms (F++D)=true:=by
 intro F
 induction F with
 |nil=>intro D x h;simp only[List.nil_append,rX,ad0,ao3] at h;grind
 |cons z t L=>
  intro D x h;simp only[List.cons_append,rX,ad0,ao3] at h;obtain⟨h1,h2⟩:=h;obtain⟨i1,i2,i3⟩:=L D x h2;refine⟨λy J=>?_,i2,?_⟩
  · grind
  · simp only[List.cons_append,rX,ad0,ao3];refine⟨λy J=>h1 y ?_,i3⟩;rcases ae5.1 J with J |J
    · grind
    · grind
theorem YK {x y:Nat×Ky} (h:r5 ops ms x y=true):x.1≠y.1:=by grind[r5]
theorem akC {x y:Nat×Ky} (h:r5 ops ms x y=true) {o:Oper} (D:ops[x.1]? =some o): ∀e∈o.after,Region.binds .any e=true->e.on≠y.1:=by
 intro e he F hc;unfold r5 at h;rw[D] at h;split at h
 · rename_i ox oi h1 h2;cases h1;simp only[ad0,Bool.not_eq_true'] at h;have:=h.1.2;rw[Array.any_eq_false'] at this;grind
 · grind
theorem Yx {x:Nat×Ky} (h:MC ops x=true): ∃o,ops[x.1]? =some o/\ ∀e∈o.after,Region.binds .any e=true->e.on≠x.1/\e.on<ops.size:=by
 unfold MC at h;split at h
 · rename_i o D;refine⟨o,D,λe he F=>?_⟩;have:=Array.all_eq_true_iff_forall_mem.1 h e he;grind
 · grind
theorem Ci.head {F:Array Bool} {x:Nat×Ky} {R:List (Nat×Ky)} (h:Ci ops F (x::R)):x.1∈Region.ready .any ops F:=by
 obtain⟨o,D,hs⟩:=Yx (h.self x am5);have hp:=h.sg;simp only[rX,ad0,ao3] at hp;have M:x.1<ops.size:=(aw1.1 D).1;rw[mem_ready];refine⟨(h.un _ M).2 ⟨x.2,am5⟩,o,D,λe he L=>?_⟩;obtain⟨O,J⟩:=hs e he L;rw[aaq (h.sz▸J)];apply Classical.byContradiction;intro U;have N:F.getD e.on true=false:=by grind
 obtain⟨k,hk⟩:=(h.un _ J).1 N;rcases ai3.1 hk with hk |hk
 · grind
 · exact akC (hp.1 _ hk) D e he L rfl
theorem Ci.step {L:Array Bool} {M N:List (Nat×Ky)} {i:Nat} {k:Ky} (h:Ci ops L (M++(i,k)::N)) (hr:i∈Region.ready .any ops L):Ci ops (L.setIfInBounds i true) (M++N):=by
 obtain⟨p1,p2,p3⟩:=Xt M N (i,k) h.sg;obtain⟨h0,o,Z,ah⟩:=mem_ready.1 hr;have an:=(aw1.1 Z).1;refine⟨by simp [h.sz],λj O=>?_,p3,λx hx=>h.self x ?_,λj O o' J e he U=>?_⟩
 · by_cases D:i=j
   · subst D;constructor
     · simp
     · rintro⟨k',F⟩;rcases ae5.1 F with F |F
       · exact(YK (p1 (i,k') F) rfl).elim
       · exact(YK (p2 (i,k') F) rfl).elim
   · rw[getD_set_ne true D,h.un j O];constructor
     · grind
     · grind
 · grind
 · by_cases D:i=j
   · subst D;rw[Z] at J;injection J with J;subst J;exact getD_set_true (ah e he U)
   · have Y:(L.setIfInBounds i true).getD j false=true:=O;rw[getD_set_ne false D] at Y;exact getD_set_true (h.closed j Y o' J e he U)
theorem aqg {n:Nat} (hd:F8 n ops=true) {E:cQ} {K:SF->Hp->Prop} {KP:Value->Hp->Prop} (hK: ∀σ h a w,Told n E σ h a w->K σ h->Q .normal a w)
  (ar:Nb KP) (hP: ∀v h c a w,Conc E c h w->a.tmps.size=n->a.defers=E.df->KP v h->Q (.panic (F9 v)) a w): ∀(fuel:Nat) (L:Array Bool) (R:List (Nat×Ky)) (σ:SF) (h:Hp) (a:Act) (w:World),
  R.length<=fuel->Ci ops L R->Told n E σ h a w->jb P ops (ph ops.toList 0 0) none R σ h K KP->wpAny P .any ops Q fuel L a w:=by
 intro fuel
 induction fuel with
 |zero=>
  intro L R σ h a w hf D J Y;have hR:R=[]:=au1.1 (by omega)
  subst hR;refine⟨?_,hK σ h a w J Y⟩;cases hc:Region.ready .any ops L with
  |nil=>rfl
  |cons i t=>
   have hm:i∈Region.ready .any ops L:=by rw[hc];exact am5
   obtain⟨h0,o,F,_⟩:=mem_ready.1 hm;obtain⟨k,hk⟩:=(D.un i (aw1.1 F).1).1 h0;cases hk
 |succ fuel ih=>
  intro L R σ h a w hf D J Y;refine⟨λh0=>?_,λi hi=>?_⟩
  · cases R with
    |nil=>exact hK σ h a w J Y
    |cons x R=>have:=D.head;rw[h0] at this;cases this
  · obtain⟨h0,o,F,av⟩:=mem_ready.1 hi;obtain⟨k,hk⟩:=(D.un i (aw1.1 F).1).1 h0;obtain⟨N,R2,rfl⟩:=List.append_of_mem hk;obtain⟨p1,p2,p3⟩:=Xt N R2 (i,k) D.sg
    have hm: ∀x∈N,pH (ph ops.toList 0 0) i x.1=false:=by
     intro x hx;apply Classical.byContradiction;intro hb;have O:pH (ph ops.toList 0 0) i x.1=true:=by grind
     unfold pH at O;rw[ad0] at O;have hl:=alX D.closed ops.toList 0 0 (λj=>by simp) (λj _ k _ hk=>by simp at hk) i (λo' U e he az=>by rw[F] at U;injection U with U;subst U;exact av e he az) x.1 (of_decide_eq_true O.1) O.2
     obtain⟨ox,a1,_⟩:=Yx (D.self x (List.mem_append_left _ hx));have an:=(aw1.1 a1).1;have:=(D.un x.1 an).2 ⟨x.2,List.mem_append_left _ hx⟩;rw[aaq (D.sz▸an),this] at hl;cases hl
    have Z:=jb.front (ms:=ph ops.toList 0 0) N R2 _ _ _ K KP ar p1 hm Y;have ah:=D.step hi;have hlen:(N++R2).length<=fuel:=by grind
    unfold wpOp;rw[F];simp only;have a6:=J;obtain⟨⟨c,g1,g2⟩,g3,g4⟩:=a6;rcases Z with⟨σ1,h1,s1,Z⟩ |⟨_,pv,h1,⟨_,o2,M,hw,τ,H,H',f1,s1,rfl⟩,aE,_⟩
    · rcases s1 with⟨b1,_⟩ |⟨_,o2,M,⟨hw,τ,H,v,H',f1,s1,_,rfl,rfl⟩ |⟨hw,rfl,rfl⟩⟩
      · cases b1
      all_goals
       rw[F] at M;cases M;rw[RM g2 hw]
      · rw[if_pos rfl];exact .inl (amJ (LF hd F) J f1 s1 λa' w' h'=>ih _ _ _ _ a' w' hlen ah h' Z)
      · rw[if_neg (by simp)]
        exact ih _ _ _ _ _ _ hlen ah (Yp (LF hd F) J) Z
    · rw[F] at M;cases M;rw[RM g2 hw];exact .inl (s1 E c h w a _ _ g1 f1.2.1 f1.2.2.1 (aat f1 g2) λw' c' q1 _=>hP pv _ c' a w' q1 g3 g4 aE)
end
theorem arc {P:Program} {Q:Exit->Act->World->Prop} {n:Nat} {E:cQ} {id:Nat} {ops:List Oper} {σ:SF} {h:Hp} {a:Act} {w:World} {K:SF->Hp->Prop} {KP:Value->Hp->Prop} (order:List (Nat×Ky)) (hm:P.follows .mixedOrders=true) (hl:order.length=ops.length) (hc:calm ops.toArray (ph ops 0 0) order=true) (U:F8 n ops.toArray=true)
  (M: ∀σ h a w,Told n E σ h a w->K σ h->Q .normal a w) (N:Nb KP) (O: ∀v h c a w,Conc E c h w->a.tmps.size=n->a.defers=E.df->KP v h->Q (.panic (F9 v)) a w) (ht:Told n E σ h a w) (Z:jb P ops.toArray (ph ops 0 0) none order σ h K KP):(Code.region id ops.toArray true).wp P Q a w:=
 wp_region_any hm (by
  unfold calm at hc;simp only[ad0,ao3] at hc;obtain⟨⟨c1,c2⟩,F⟩:=hc
  have ah:Told n E σ h a {w with drawn:=w.drawn+1}:=by
   obtain⟨⟨c,h1,h2⟩,J,L⟩:=ht;obtain⟨g1,g2⟩:=h1.same (w':={w with drawn:=w.drawn+1}) ⟨rfl,rfl,rfl,ab8 _,λ_ _ _=>rfl⟩
   exact⟨⟨c,g1,λt=>(h2 t).fL g2⟩,J,L⟩
  refine aqg U M N O _ _ order σ h a _ (by grind) ⟨by simp,λj D=>?_,c1,F,λj D=>?_⟩ ah Z
  · simp_all
  · exfalso;by_cases Y:j<ops.length
    · simp_all
    · simp [Y] at D)
end
end Go.Proofs.YtejhifnjgoclpaaGreatDoor.Fx
