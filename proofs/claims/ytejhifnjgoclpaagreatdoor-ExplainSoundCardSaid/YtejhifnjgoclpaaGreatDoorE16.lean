/- Parts of the proofs, put together by a program. -/
import Derived.Test.YtejhifnjgoclpaaGreatDoorE15
import Derived.Shelf.Spec.SlicesGrow
set_option linter.unusedVariables false
set_option linter.unusedSimpArgs false
open Option renaming bind_some->aa7
open List renaming getElem_mem->ab7,length_map->ae2,mem_append->ae5,getElem?_eq_getElem->ae6,length_append->ae7,mem_singleton->ah3,mem_map->ar1,take_append_drop->as0,take_length->as1,take_succ_eq_append_getElem->at7,mem_filter->aw0
open Nat renaming le_refl->ab8,zero_le->ae3,lt_of_lt_of_le->au5
open Int renaming toNat_natCast->ae9,lt_irrefl->ak0
open Bool renaming eq_false_or_eq_true->au7,eq_false_iff->aw7
namespace Go.Proofs
open Go.Shelf
def Tryz.a3E:Go.Shelf.Ren:=⟨λ|4=>397 |n=>n,λ|0=>0 |3=>3 |4=>4 |9=>9 |20=>20 |22=>55 |25=>3 |n=>n,λ|n=>n⟩
theorem Tryz.a3M:Go.Proofs.Lays8.n4 Tryz.prog Tryz.a3E:={
 mixed:=by kernel_rfl
 f4:=⟨Tryz.f397.name,by decide,Tryz.func397.trans (congrArg some (by kernel_rfl))⟩
 t0:=Tryz.underlying0
 a0:=Tryz.isAgg0
 z0:=Tryz.sizeOf0
 v0:=Tryz.zeroValue0
 t3:=Tryz.underlying3
 a3:=Tryz.isAgg3
 z3:=Tryz.sizeOf3
 v3:=Tryz.zeroValue3
 t4:=Tryz.underlying4
 a4:=Tryz.isAgg4
 z4:=Tryz.sizeOf4
 v4:=Tryz.zeroValue4
 t9:=Tryz.underlying9
 a9:=Tryz.isAgg9
 z9:=Tryz.sizeOf9
 v9:=Tryz.zeroValue9
 t20:=Tryz.underlying20
 a20:=Tryz.isAgg20
 z20:=Tryz.sizeOf20
 v20:=Tryz.zeroValue20
 t22:=Tryz.underlying55
 a22:=Tryz.isAgg55
 z22:=Tryz.sizeOf55
 v22:=Tryz.zeroValue55}
end Go.Proofs
namespace Go.Proofs.YtejhifnjgoclpaaGreatDoor.Fx
open Go.RowKit
set_option maxRecDepth 100000
theorem a4Y {P:Program} {t:TypeId} {z:Value} {a b:Nat} (h:(P.info? t).map (λi=>(i.zero,i.size,i.bytes))=some (some z,a,b)): ∃i,P.info? t=some i/\i.zero=some z/\i.size=a/\i.bytes=b:=by
 cases D:P.info? t with
 |none=>rw[D] at h;cases h
 |some i=>rw[D] at h;simp at h;exact⟨i,rfl,h.1,h.2.1,h.2.2⟩
theorem a5c:(Tryz.prog.info? 3).map (λi=>(i.zero,i.size,i.bytes))=some (some (.int .i64 0),1,8):=by kernel_rfl
theorem a4Z (n:Int) (h0:0<=n) (Z:n<=1000000):fo Tryz.prog 397 [.c .nil,.c (.v (.int .i64) n)] [] (.ret (.c (.ow 1 0 .all)) [(1,.row [] 3 (.int .i64) [])]):=by
 intro c w vals hC D;obtain⟨k,rfl⟩: ∃k:Nat,n=(k:Int):=⟨n.toNat,by omega⟩
 cases D with
 |cons F D=>cases D with
  |cons J D=>
   cases D;have F:_=Value.slice none 0 0:=F;have J:Value.int .i64 (k:Int)=_:=J.2;subst F;subst J
   have fin: ∀v' w',w'.ownsRow w.heap.size 3 1 v' 0 []->Below w.heap.size w w'-> ∃c',ve (dW w c (aj [])) (.returned v') c' w' (.ret (.c (.ow 1 0 .all)) [(1,.row [] 3 (.int .i64) [])]):=λv' w' N L=>by
    obtain⟨c',g1,g2⟩:=hC.arq L (k:=1) rfl rfl (e:=3) (t:=.int .i64) (by decide) (l:=[]) N .nil
    have e:bY (aj []) 1 (some (aX.row [] 3 (.int .i64) []))=aj [(1,.row [] 3 (.int .i64) [])]:=(jh [] 1 _).symm;rw[e] at g1 g2;exact⟨c',v',rfl,g1,g2⟩
   by_cases hk:k=0
   · subst hk;refine(Any8.slices_Grow_room Tryz.a3M none 0 0 0 w (ab8 _) (by omega) (by omega) (by omega)).mono ?_
     rintro e w' ⟨rfl,rfl⟩;exact fin _ _ ⟨rfl,.inl ⟨rfl,rfl⟩⟩ (Below.refl _ _)
   · obtain⟨i0,M,O,U,Y⟩:=a4Y a5c;refine(Any8.slices_Grow_grow Tryz.a3M i0 (.int .i64 0) M O (by rw[U];decide) none 0 0 k [] w (ab8 _) (by omega) (by rw[Y];omega) (by omega) (by simp) (λ_=>rfl) (λa h=>by cases h)).mono ?_
     rintro e w' ⟨rfl,rfl⟩;refine fin _ _ ⟨by simp,.inr ⟨w.heap.size,_,_,rfl,ab8 _,heap_alloc_new w.drew _,ae3 _,?_,?_,by simp⟩⟩ ?_
     · exact grownCap_le_maxLen w _ _ _ (by unfold maxLen;omega)
     · have:=grownCap_ge w (0+k) 0 (Tryz.a3E.t 25);rw[Nat.zero_add] at this;simp [Builtin.zeroCells,Value.cells];omega
     · exact(show Below w.heap.size w w.drew from⟨rfl,rfl,rfl,ab8 _,λ_ _=>rfl⟩).trans (show Below w.heap.size w.drew (w.drew.alloc _) from(Below.refl w.drew.heap.size w.drew).alloc (ab8 _) _)
def a1v (n:Int):Option (List Int):=if 0<=n/\n<=1000000 then some [] else none
noncomputable def a4z:dh Tryz.prog:=mkB 397 ⟨[(0,.c .nil),(1,.c (.v (.int .i64)))],[]⟩ [(false,⟨[(4,.c (.own 1))],[(1,.row 3 (.int .i64))]⟩)] (λr=>(r,())) (λx=>a1v x.1) (by kernel_rfl) (λx o h0=>by
 obtain⟨n,u⟩:=x;have h:a1v n=some o:=h0;unfold a1v at h;split at h
 · rename_i D;obtain rfl:[]=o:=Option.some.inj h;exact a4Z n D.1 D.2
 · cases h)
end Go.Proofs.YtejhifnjgoclpaaGreatDoor.Fx
namespace Go.Proofs.YtejhifnjgoclpaaGreatDoor.Fx
open Go.RowKit
set_option maxRecDepth 100000
noncomputable section
def a4b:List UInt8:=[108,101,110,32,111,117,116,32,111,102,32,114,97,110,103,101]
def a1n:List (List Int)×Int×List (List Int)×Int×Int×Unit->Option ((List (List Int)×Int×List (List Int)×Int×Int×Unit)⊕((List (List Int)×Int×Unit)⊕(Value×Unit))):=λ(M,D,O,N,F,_)=>
 bif decide (F<N) then
  (ag O F).bind λL=>
  J (aa .i64 (D+(L.length:Int)))<|
  bif decide ((D+(L.length:Int))<0) then
   some (.inr (.inr ((.iface 9 (.string ⟨a4b.toArray⟩)),())))
  else
   J (aa .i64 (F+1))<|
   some (.inl (M,(D+(L.length:Int)),O,N,(F+1),()))
 else
  some (.inr (.inl (M,D,())))
def a1m:List (List Int)×Int×Int×List Int×Unit->Option ((List (List Int)×Int×Int×List Int×Unit)⊕((List Int×Unit))):=λ(L,M,D,F,_)=>
 bif decide (D<M) then
  (ag L D).bind λN=>
  J (F.length+N.length<=1000000000)<|
  J (aa .i64 (D+1))<|
  some (.inl (L,M,(D+1),(F++N),()))
 else
  some (.inr (F,()))
def a1S (D:List (List Int)):Option ((List Int×Unit)⊕(Value×Unit)):=
 (ab a1n (D,0,D,(D.length:Int),0,())).bind λo=>
 match o with
 |.inl (F,N,_)=>
  (a1v N).bind λJ=>
  (ab a1m (F,(F.length:Int),0,J,())).bind λ(M,_)=>
  some (.inl (M,()))
 |.inr (L,_)=>some (.inr (L,()))
def a3o:dh Tryz.prog:=mkF [a4z] [(29,{cut:=[(.normal,⟨[(0,.c (.v (.sl (.sl (.int .i64))))),(3,.c (.v (.int .i64)))],[]⟩),(.dK,⟨[],[]⟩)]}),
 (30,{ow:=[24],ps:=[(24,[(1,24)])]}),
 (58,{loop:=some ⟨[(0,.c (.v (.sl (.sl (.int .i64))))),(3,.c (.v (.int .i64))),(9,.c (.v (.sl (.sl (.int .i64))))),(10,.c (.v (.int .i64))),(11,.c (.v (.int .i64)))],[]⟩}),
 (125,{cut:=[(.normal,⟨[(6,.c (.own 24))],[(24,.row 3 (.int .i64))]⟩)]}),
 (127,{pre:=[.ba 24]}),
 (250,{loop:=some ⟨[(6,.c (.own 24)),(25,.c (.v (.sl (.sl (.int .i64))))),(26,.c (.v (.int .i64))),(27,.c (.v (.int .i64)))],[(24,.row 3 (.int .i64))]⟩})] 337 ⟨[(0,.c (.v (.sl (.sl (.int .i64)))))],[]⟩ [(false,⟨[(2,.c (.v (.sl (.int .i64))))],[]⟩),(true,⟨[],[]⟩)] (id) (id) (λ_=>rfl) (λx=>a1S x.1) (by kernel_rfl) (λx=>by kernel_rfl)
end
theorem a4T (l:List (List Int)) (M:l.length<=1000000) (hf:l.flatten.length<1000000): ∀m i,l.length - i=m->i<=l.length->ab a1n (l,(((l.take i).flatten.length:Nat):Int),l,(l.length:Int),(i:Int),())=some (.inl (l,((l.flatten.length:Nat):Int),())):=by
 intro m
 induction m with
 |zero=>
  intro i hm F;obtain rfl:i=l.length:=by omega
  rw[as1];exact bk (by simp only[a1n,ak0,decide_false,cond_false])
 |succ m L=>
  intro i hm F;have h:i<l.length:=by omega
  have e:(l.take (i+1)).flatten.length=(l.take i).flatten.length+l[i].length:=by rw[at7 h,List.flatten_append,ae7];simp
  have hle:(l.take (i+1)).flatten.length<=l.flatten.length:=by
   conv=>rhs;rw[<-as0 (i+1) l]
   rw[List.flatten_append,ae7];omega
  have D:(((l.take i).flatten.length:Nat):Int)+(l[i].length:Int)=(((l.take (i+1)).flatten.length:Nat):Int):=by omega
  have hk: ∀{R:Type} (q:Option R),J (aa .i64 (((l.take (i+1)).flatten.length:Nat):Int)) q=q:=λq=>aw (n:=(l.take (i+1)).flatten.length) (by omega)
  rw[aZ (v':=(l,(((l.take (i+1)).flatten.length:Nat):Int),l,(l.length:Int),((i+1:Nat):Int),())) (by simp only[a1n,dY (show((i:Nat):Int)<(l.length:Int) by omega),cond_true,cond_false,au h,D,hk,dN (show¬(((l.take (i+1)).flatten.length:Nat):Int)<0 by omega),aH,aw (show i+1<=4611686018427387904 by omega)])]
  exact L (i+1) (by omega) h
theorem a4S (l:List (List Int)) (L:l.length<=1000000) (hf:l.flatten.length<1000000): ∀m i,l.length - i=m->i<=l.length->ab a1m (l,(l.length:Int),(i:Int),(l.take i).flatten,())=some (l.flatten,()):=by
 intro m
 induction m with
 |zero=>
  intro i hm D;obtain rfl:i=l.length:=by omega
  rw[as1];exact bk (by simp only[a1m,ak0,decide_false,cond_false])
 |succ m F=>
  intro i hm D;have h:i<l.length:=by omega
  have e:(l.take i).flatten++l[i]=(l.take (i+1)).flatten:=by rw[at7 h,List.flatten_append];simp
  have hle:(l.take (i+1)).flatten.length<=l.flatten.length:=by
   conv=>rhs;rw[<-as0 (i+1) l]
   rw[List.flatten_append,ae7];omega
  have hk: ∀{R:Type} (q:Option R),J ((l.take i).flatten.length+l[i].length<=1000000000) q=q:=λq=>ai (by rw[<-ae7,e];omega)
  rw[aZ (v':=(l,(l.length:Int),((i+1:Nat):Int),(l.take (i+1)).flatten,())) (by simp only[a1m,dY (show((i:Nat):Int)<(l.length:Int) by omega),cond_true,au h,hk,e,aH,aw (show i+1<=4611686018427387904 by omega)])]
  exact F (i+1) (by omega) h
theorem a4K (l:List (List Int)) (D:l.length<=1000000) (hf:l.flatten.length<1000000):a1S l=some (.inl (l.flatten,())):=by have h1:=a4T l D hf l.length 0 rfl (ae3 _);have h2:=a4S l D hf l.length 0 rfl (ae3 _);have h1:ab a1n (l,0,l,(l.length:Int),0,())=_:=h1;have h2:ab a1m (l,(l.length:Int),0,[],())=_:=h2;unfold a1S a1v;rw[h1];simp only[aa7];rw[if_pos ⟨by omega,by omega⟩,aa7,h2];rfl
noncomputable def a4r:dh Tryz.prog:=mkB 337 ⟨[(0,.c (.v (.sl (.sl (.int .i64)))))],[]⟩ [(false,⟨[(2,.c (.v (.sl (.int .i64))))],[]⟩)] (λr=>(r,())) (λx=>a0W x.1) (by kernel_rfl) (λx o h0=>by
 obtain⟨l,u⟩:=x;have h:a0W l=some o:=h0;unfold a0W at h;split at h
 · rename_i D;obtain rfl:l.flatten=o:=Option.some.inj h;have L:a3o.F _ (l,()) some=some (.inl (l.flatten,())):=by show(a1S l).bind _=_;rw[a4K l D.1 D.2];rfl
   obtain⟨o,h1,h2⟩:=a3o.ok _ _ _ _ L;have J:=Option.some.inj h1;subst J;exact h2
 · cases h)
end Go.Proofs.YtejhifnjgoclpaaGreatDoor.Fx
namespace Go.Proofs.YtejhifnjgoclpaaGreatDoor.Fx
open Go.RowKit
set_option maxRecDepth 1000000
noncomputable section
theorem a1V (l:List Int) (v:Int) (D:l.length<=1000000):a0U l v=some (l.any λx=>decide (x=v)):=by
 have h:=iT (f:=a1o) l (λx=>decide (x=v)) (λk=>(l,v,l.length,k,())) (λk=>Sum.inr (k,())) (Sum.inl ()) (λk h hp=>by
  have hp: ¬v=l[k]:=λe=>of_decide_eq_false hp e.symm;simp (disch:=omega) only[K0,a1o]) (λk h hp=>by
  have hp:=(of_decide_eq_true hp).symm;simp (disch:=omega) only[K0,a1o]) (by
  simp[a1o])
 simp_all[a0U,a2z];rw[<-o9 l (λx=>decide (x=v)) inferInstance];unfold bG;cases l.findIdx? (λx=>decide (x=v))<;>rfl
theorem a3w (l:List Int) (v:Int) (U:l.length<1000000):a1s l v=some (l.filter λx=> !decide (x=v)):=by
 have key:a1M v l=some (l.filter λx=> !decide (x=v)):=by
  unfold a1M a2t
  have H:=abm (f:=a1L) l (λx=>decide (x=v)) (λj=>(l,v,l.length,j,())) (λj F=>by
   have D: ∀{R:Type} (q:Option R),J (aa .i64 (j+1)) q=q:=λq=>aw (n:=j+1) (by omega)
   simp (disch:=omega) only[K0,a1L,a1p];rcases au7 (decide (l[j]=v)) with e |e
   · rw[e];rfl
   · rw[e];rfl) (by simp[a1L])
  rcases H with⟨e,h⟩ |⟨k,hk,e,h1,h2⟩
  · rw[e,h];rfl
  · rw[e];simp only[dN (show¬((k:Int)= -1) by omega)]
    refine abz (f:=a1K) l (by omega) (λx=>decide (x=v)) (λi j o=>(v,i,j,o,())) (λi j o O F L M=>?_) (λi o L=>?_) k hk h1 h2
    · have c1: ∀{R:Type} (q:Option R),J (0<=j/\j<o.length) q=q:=λq=>ai ⟨by omega,by omega⟩
      have c2: ∀{R:Type} (q:Option R),J (0<=i/\i<o.length) q=q:=λq=>ai ⟨by omega,by omega⟩
      have N: ∀{R:Type} (q:Option R),J (aa .i64 (i+1)) q=q:=λq=>aw (n:=i+1) (by omega)
      have D: ∀{R:Type} (q:Option R),J (aa .i64 (j+1)) q=q:=λq=>aw (n:=j+1) (by omega)
      have g1:=ae6 (by omega)
      simp (disch:=omega) only[K0,a1K,a1p,M];rcases au7 (decide (l[j]=v)) with e |e
      · rw[e];rfl
      · rw[e];rfl
    · simp (disch:=omega) only[K0,a1K]
 simp_all[a1s,a1t]
def a0Q (c:List Int):Prop:=c.length<=2001/\ ∀x∈c,-1000<=x/\x<=1000
def a2b (c:List Int):Bool:=c.any λx=>c.any λy=>decide (y=0 - x)
theorem a4V (c:List Int) (hc:a0Q c):a1Y c=some (a2b c):=by
 have F:=hc.1
 have h:=iT (f:=a0T) c (λx=>c.any λy=>decide (y=0 - x)) (λk=>(c,c,c.length,k,())) (λk=>Sum.inr (k,())) (Sum.inl ()) (λk h hp=>by
  have D:=hc.2 _ (ab7 h);simp (disch:=omega) only[K0,a0T,a1W,a1V c (0 - c[k]) (by omega),hp]) (λk h hp=>by
  have D:=hc.2 _ (ab7 h);simp (disch:=omega) only[K0,a0T,a1W,a1V c (0 - c[k]) (by omega),hp]) (by
  simp[a0T])
 unfold a1Y a2u a2w;rw[show ab a0T (c,c,c.length,0,())=_ from h]
 unfold a2b;rw[<-o9 c (λx=>c.any λy=>decide (y=0 - x)) inferInstance];unfold bG;cases c.findIdx? (λx=>c.any λy=>decide (y=0 - x))<;>rfl
theorem a3y {l:List Int} (h: ∀x∈l,-1000<=x/\x<=1000):a0Q (bV l):=by
 obtain⟨h1,h2⟩:=tC l;refine⟨?_,λx D=>h x ((h2 x).1 D)⟩;have:=KV (m:=(List.range 2001).map λ(i:Nat)=>(i:Int) - 1000) h1.nodup λx D=>by have:=h x ((h2 x).1 D);exact ar1.2 ⟨(x+1000).toNat,List.mem_range.2 (by omega),by omega⟩
 grind
def a0u (a b:List Int) (v:Int):Option (List Int):=if v<1\/a.any (λx=>decide (x=v))=false\/b.any (λx=>decide (x=0 - v))=false\/a2b (bV ((a.filter λx=> !decide (x=v))++(b.filter λx=> !decide (x=0 - v))))=true then none
 else some (bV ((a.filter λx=> !decide (x=v))++(b.filter λx=> !decide (x=0 - v))))
theorem a3x (a b:List Int) (L:a0Q a) (M:a0Q b) (v:Int) (hv:v<=1000):a0O a b v=some ((a0u a b v).getD [],if(a0u a b v).isSome=true then 0 else 9)/\ ∀r,a0u a b v=some r->1<=v/\r=bV ((a.filter λx=> !decide (x=v))++(b.filter λx=> !decide (x=0 - v)))/\a0Q r:=by
 have no: ∀{q:Option (List Int×Int)},a0u a b v=none->q=some ([],9)->q=some ((a0u a b v).getD [],if(a0u a b v).isSome=true then 0 else 9)/\ ∀r,a0u a b v=some r->1<=v/\r=bV ((a.filter λx=> !decide (x=v))++(b.filter λx=> !decide (x=0 - v)))/\a0Q r:=λ{q} h e=>by rw[h];grind
 have h1:=L.1;have h2:=M.1;unfold a0O;by_cases c1:v<1
 · rw[dY c1];exact no (if_pos (.inl c1)) rfl
 · simp (disch:=omega) only[K0,a1V a v (by omega)]
   cases N:a.any (λx=>decide (x=v)) with
   |false=>exact no (if_pos (.inr (.inl N))) rfl
   |true=>
    have ck: ∀{R:Type} (q:Option R),J (aa .i64 (0 - v)) q=q:=λq=>ai (bd (by omega))
    simp (disch:=omega) only[ck,a1V b (0 - v) (by omega)]
    cases O:b.any (λx=>decide (x=0 - v)) with
    |false=>exact no (if_pos (.inr (.inr (.inl O)))) rfl
    |true=>
     have f1:=List.length_filter_le (λx=> !decide (x=v)) a;have f2:=List.length_filter_le (λx=> !decide (x=0 - v)) b;have D: ∀x∈(a.filter λx=> !decide (x=v))++(b.filter λx=> !decide (x=0 - v)),-1000<=x/\x<=1000:=λx F=>(ae5.1 F).elim (λh=>L.2 x (aw0.1 h).1) (λh=>M.2 x (aw0.1 h).1);have Z:a0X ((a.filter λx=> !decide (x=v))++(b.filter λx=> !decide (x=0 - v)))=some (bV ((a.filter λx=> !decide (x=v))++(b.filter λx=> !decide (x=0 - v)))):=by unfold a0X;rw[aqx (λx F=>by have:=D x F;omega),dY (by grind)];rfl
     have Y:a0W [a.filter λx=> !decide (x=v),b.filter λx=> !decide (x=0 - v)]=some ((a.filter λx=> !decide (x=v))++(b.filter λx=> !decide (x=0 - v))):=by unfold a0W;rw[List.flatten_cons,List.flatten_cons,List.flatten_nil,List.append_nil,if_pos ⟨(by simp),by rw[ae7];omega⟩]
     have ht:=a4V _ (a3y D);simp (disch:=omega) only[K0,a3w a v (by omega),a3w b (0 - v) (by omega),Y,Z,ht]
     cases U:a2b (bV ((a.filter λx=> !decide (x=v))++(b.filter λx=> !decide (x=0 - v)))) with
     |true=>exact no (if_pos (.inr (.inr (.inr U)))) rfl
     |false=>
      have e:a0u a b v=some (bV ((a.filter λx=> !decide (x=v))++(b.filter λx=> !decide (x=0 - v)))):=if_neg (by grind)
      rw[e];exact⟨rfl,λr h=>by cases h;exact⟨by omega,rfl,a3y D⟩⟩
variable {A:List aq} {R:List al} {c:List Int}
theorem a3t {a b:List Int} {v:Int} (F:1<=v) (h1:pq A R c a) (h2:pq A R c b):pq A R c (bV ((a.filter λx=> !decide (x=v))++(b.filter λx=> !decide (x=0 - v)))):=by
 refine Q8 ?_;by_cases e:Nl A R c v
 · obtain⟨x,D,q⟩:=h2;refine⟨x,ae5.2 (.inr (aw0.2 ⟨D,?_⟩)),q⟩;rw[dN ?_];rfl;rintro rfl;rcases q with⟨q,_⟩ |⟨_,q⟩
   · omega
   · rcases e with⟨_,e⟩ |⟨e,_⟩
     · grind
     · omega
 · obtain⟨x,D,q⟩:=h1;refine⟨x,ae5.2 (.inl (aw0.2 ⟨D,?_⟩)),q⟩;grind
def a2s {β:Type} (T:aQ×Int->Option ((β×(aQ×Int)×Unit)⊕(Value×Unit))) (P:β->Prop):Prop:=
 ∀(L:aQ) (k:Nat),ct L->k<=L.2.1.length->(∃b D,D<=L.2.1.length/\P b/\T (L,(k:Int))=some (.inl (b,(L,((D:Nat):Int)),())))\/(∃v,a0l v/\T (L,(k:Int))=some (.inr (v,())))
theorem a0q {e:Int} (he: ¬e=0) (l c:Int):a0l (dt e l c):=⟨e,l,c,rfl,he⟩
theorem oj.rd {β:Type} {T:aQ×Int->Option ((β×(aQ×Int)×Unit)⊕(Value×Unit))} {kind:Int} {ok:List UInt8->Bool} {val:List UInt8->β} (h:oj T kind ok val):a2s T (λ_=>True):=by
 intro L k F hk;rcases h L k F hk with⟨h1,_,h2,_⟩ |⟨c,l,D,_,_,hc,_,h2,_⟩
 · exact .inl ⟨_,k+1,h1,trivial,h2⟩
 · exact .inr ⟨_,a0q hc l D,h2⟩
theorem a2H:a2s a1k (λ_=>True):=oj.rd (kind:=2) (ok:=gm) (val:=id) (qN a1U (λo=>rfl) (λw hw=>⟨w,by unfold a1U;rw[DO w hw];rfl,λ_=>rfl⟩) (λw hw=>abT w hw))
theorem a2E:a2s a1j (λ_=>True):=oj.rd (kind:=1) (ok:=dL) (val:=id) (qN a1T (λo=>rfl) (λw hw=>⟨w,by unfold a1T;rw[yW w hw];rfl,λ_=>rfl⟩) (λw hw=>aaW w hw))
theorem a4y (L:aQ) (N:ct L) (k:Nat) (hk:k<=L.2.1.length) (w:List UInt8) (M:w.length<=9) (D:Int): ∀m j (n:Nat),w.length - j=m->j<=w.length->n<10 ^j->
  (∃r:Nat,r<1000000000/\ab a0p (D,w,(n:Int),(w.length:Int),(j:Int),L.1,L.2.1,L.2.2,(k:Int),())=some (.inl (D,(r:Int),L.1,L.2.1,L.2.2,(k:Int),())))\/
  (∃v,a0l v/\ab a0p (D,w,(n:Int),(w.length:Int),(j:Int),L.1,L.2.1,L.2.2,(k:Int),())=some (.inr (v,()))):=by
 have hf:=cL 1 L N k hk;have hs:a0l (dt 1 L.1 (aL L k)):=a0q (by simp) _ _
 intro m
 induction m with
 |zero=>
  intro j n hm U F;obtain rfl:j=w.length:=by omega
  have hp:=au5 F (Nat.pow_le_pow_right (by simp) M)
  exact .inl ⟨n,hp,bk (by simp[a0p,decide_false])⟩
 |succ m Z=>
  intro j n hm U F;have h:j<w.length:=by omega
  have hp:n<10 ^9:=au5 F (Nat.pow_le_pow_right (by simp) (by omega))
  by_cases a:(w[j]).toNat<48
  · exact .inr ⟨_,hs,bk (by simp (disch:=omega) only[K0,a0p,hf])⟩
  · by_cases b:57<(w[j]).toNat
    · exact .inr ⟨_,hs,bk (by simp (disch:=omega) only[K0,a0p,hf])⟩
    · have O:aa .i64 (((w[j]).toNat) - 48):=bd (by omega)
      have hu:aa .u8 (((w[j]).toNat) - 48):=by rw[wK];omega
      have J:(10*n)+(((w[j]).toNat) - 48)=((10*n+((w[j]).toNat - 48):Nat):Int):=by omega
      have Y:a0p (D,w,n,w.length,j,L.1,L.2.1,L.2.2,k,())=some (.inl (D,w,((10*n+((w[j]).toNat - 48):Nat):Int),w.length,((j+1):Int),L.1,L.2.1,L.2.2,k,())):=by simp (disch:=omega) only[K0,a0p,Zv O,J]
      rw[aZ Y];exact Z (j+1) _ (by omega) h (by omega)
theorem a2C:a2s a0M (λn=>0<=n/\n<=1000000000):=by
 intro L k F hk;by_cases h:k<L.2.1.length
 · have hw:=F.2.2 _ (ab7 h);have hf:cr 1 (L,((k+1:Nat):Int))=some (dt 1 L.1 (aL L (k+1)),()):=cL 1 L F (k+1) h;have a1:=cL 8 L F (k+1) h;have hs:a0l (dt 1 L.1 (aL L (k+1))):=a0q (by simp) _ _
   have az:=qz L F k h;generalize hW:L.2.1[k]=w at hw az;unfold a0M a1Q;simp[az];by_cases c1:(w.length:Int)<1
   · omega
   · rw[dN c1];by_cases c2:9<(w.length:Int)
     · grind
     · rw[dN c2];have aE:=a4y L F (k+1) h w (by omega) 1099511627776 w.length 0 0 rfl (ae3 _) (by simp)
       have main:(∃b D,D<=L.2.1.length/\(0<=b/\b<=1000000000)/\((ab a0p (1099511627776,w,0,w.length,0,L.1,L.2.1,L.2.2,((k+1:Nat):Int),())).bind λan=>
         match an with
         |.inl (Y,J,M,N,O,U,_)=>bif decide (Y<J) then(cr 8 ((M,N,O),U)).bind λ(ar,_)=>some (Sum.inr (ar,())) else some (Sum.inl (J,((M,N,O),U),()))
         |.inr (av,_)=>some (Sum.inr (av,())))=some (Sum.inl (b,(L,(D:Int)),())))\/
        (∃v,a0l v/\((ab a0p (1099511627776,w,0,w.length,0,L.1,L.2.1,L.2.2,((k+1:Nat):Int),())).bind λan=>
         match an with
         |.inl (Y,J,M,N,O,U,_)=>bif decide (Y<J) then(cr 8 ((M,N,O),U)).bind λ(ar,_)=>some (Sum.inr (ar,())) else some (Sum.inl (J,((M,N,O),U),()))
         |.inr (av,_)=>some (Sum.inr (av,())))=some (Sum.inr (v,()))):=by
        rcases aE with⟨r,hr,e⟩ |⟨v,hv,e⟩
        · have e:ab a0p (1099511627776,w,0,w.length,0,L.1,L.2.1,L.2.2,((k+1:Nat):Int),())=_:=e;rw[e];simp (disch:=omega) only[K0];exact .inl ⟨_,k+1,h,⟨by omega,by omega⟩,rfl⟩
        · have e:ab a0p (1099511627776,w,0,w.length,0,L.1,L.2.1,L.2.2,((k+1:Nat):Int),())=_:=e;rw[e];exact .inr ⟨v,hv,rfl⟩
       have fin: ∀x:Option ((Int×(aQ×Int)×Unit)⊕(Value×Unit)),((∃b D,D<=L.2.1.length/\(0<=b/\b<=1000000000)/\x=some (.inl (b,(L,(D:Int)),())))\/(∃v,a0l v/\x=some (.inr (v,()))))->
         (∃b D,D<=L.2.1.length/\(0<=b/\b<=1000000000)/\(x.bind λah=>match ah with
          |.inl (number,Z,_)=>some (Sum.inl (number,Z,()))
          |.inr (pv,_)=>some (Sum.inr (pv,())))=some (.inl (b,(L,(D:Int)),())))\/(∃v,a0l v/\(x.bind λah=>match ah with
          |.inl (number,Z,_)=>some (Sum.inl (number,Z,()))
          |.inr (pv,_)=>some (Sum.inr (pv,())))=some (.inr (v,()))):=by
        rintro x (⟨b,D,h1,h2,rfl⟩ |⟨v,h1,rfl⟩)
        · exact .inl ⟨b,D,h1,h2,rfl⟩
        · exact .inr ⟨v,h1,rfl⟩
       by_cases c3:1<(w.length:Int)
       · simp (disch:=omega) only[K0];by_cases c4:((w[0]'(by omega)).toNat:Int)=48
         · simp (disch:=omega) only[K0,hf];exact .inr ⟨_,hs,rfl⟩
         · rw[dN c4];exact fin _ main
       · rw[dN c3];exact fin _ main
 · unfold a0M a1Q;simp only[abP L k h];exact .inr ⟨_,a0q (by simp) _ _,rfl⟩
theorem a2J (L:aQ) (D:ct L) (k:Nat) (hk:k<=L.2.1.length):(a0F (L,(k:Int))=some (.inl ((L,(k:Int)),())))\/(∃v,a0l v/\a0F (L,(k:Int))=some (.inr (v,()))):=by
 unfold a0F;rw[gb];by_cases h:k<L.2.1.length
 · simp (disch:=omega) only[K0,cL 1 L D k hk];exact .inr ⟨_,a0q (by simp) _ _,rfl⟩
 · grind
variable {A:List aq} {R:List al}
theorem a4E (hA:A.length<=360) (hT:(ax A R).length<=400) (l:bT) (U:l∈lp A R (ax A R)): ∀x∈l.2,-1000<=x/\x<=1000:=by
 have lN: ∀{m:List Int},(∀x∈m,-1000<=x/\x<=1000)-> ∀x∈bV m,-1000<=x/\x<=1000:=λ{m} h x D=>h x (((tC m).2 x).1 D);have N: ∀{m q:List Int},(∀x∈m,-1000<=x/\x<=1000)->(∀x∈q,-1000<=x/\x<=1000)-> ∀x∈m++q,-1000<=x/\x<=1000:=λh1 h2 x D=>(ae5.1 D).elim (h1 x) (h2 x);have Y: ∀i:Nat,i<=900-> ∀x∈[neg i],-1000<=x/\x<=1000:=λi h x D=>by rw[ah3.1 D];unfold neg;omega
 have J: ∀i j:Nat,i<=900->j<=900-> ∀x∈[neg i,neg j],-1000<=x/\x<=1000:=λi j h g x D=>(List.mem_cons.1 D).elim (λe=>by rw[e];unfold neg;omega) (Y j g x)
 have O: ∀Z an F ns,(∀x∈F,-1000<=x/\x<=1000)->l∈lR A (ax A R) Z an F ns-> ∀x∈l.2,-1000<=x/\x<=1000:=by
  intro Z an F ns L hq;obtain⟨i,hi,q⟩:=EJ hq;rcases q with rfl |⟨k,hk,rfl⟩
  · exact lN (N L λx D=>by have:=amZ D;omega)
  · refine lN (N L λx D=>?_);have hr:=Et A.length (ax A R) ((ns[i]).1,(ns[i]).2.2[k]);rw[ah3.1 D];omega
 unfold lp at U;rcases ae5.1 U with q |q
 · grind
 · obtain⟨i,hi,q⟩:=dG.1 q;unfold mR at q;rcases ae5.1 q with q |q
   · rcases ae5.1 q with q |q
     · rcases ae5.1 q with q |q
       · obtain⟨k,hk,q⟩:=dG.1 q;rw[List.length_drop] at hk;split at q
         · rw[ah3.1 q];exact lN (J _ _ (by omega) (by omega))
         · cases q
       · exact O _ _ _ _ (Y i (by omega)) q
     · obtain⟨t,ht,q⟩:=dG.1 q;have M:=J i (A.length+t) (by omega) (by omega)
       unfold sj at q;split at q
       · cases hf:eP (A[i]).1 ((ax A R)[t]).2 with
         |none=>rw[hf] at q;rw[ah3.1 q];exact M
         |some fd=>rw[hf] at q;exact O _ _ _ _ M q
       · cases q
   · obtain⟨k,hk,q⟩:=dG.1 q;obtain⟨j,hj,q⟩:=dG.1 q;obtain⟨z,hz,e,_⟩:=wC.1 (ab7 hj);rw[ah3.1 q,e];exact lN (J i z (by omega) (by omega))
def a2V (A:List aq) (R:List al) (x:List Int):Prop:=a0Q x/\ ∀c:List Int,c.length<=1000000->Good A R c->pq A R c x
theorem a4C (hA:bu A) (hR:bM R) (hT:(ax A R).length<=400) (f:aY):(∃x,fg (bn A R) f=some (x,true)/\a2V A R x)\/fg (bn A R) f=some ([],false):=by
 by_cases h:f∈iY A R (ax A R)
 · obtain⟨l,D,rfl⟩:=ar1.1 ((RX A R (ax A R)).mem_iff.2 h);have h1:=(ZI A hA.many R hT l D).1;exact .inl ⟨l.2,XH A hA R hR hT l D,⟨by omega,a4E hA.many hT l D⟩,λc hc hG=>ajZ hA hR hc hG D⟩
 · exact .inr (an9 A hA R hR hT f h)
theorem find_eq (hA:A.length<=360) (s:List UInt8) (v:cP) (src:List UInt8): ∃i:Int,a1X (A.map bN) s v src=some i/\ -1<=i/\i<(A.length:Int):=by
 obtain⟨p,hp⟩: ∃p:sq->Bool,∀x:sq,a0V x s v src=some (p x):=⟨λx=>(a0V x s v src).getD false,λx=>by
  show _=some ((a0V x s v src).getD false);unfold a0V;cases decide (x.1.1=s) with
  |false=>rfl
  |true=>cases(decide (x.1.2.1.1.1=v.1.1)&&(decide (x.1.2.1.1.2.1=v.1.2.1)&&(decide (x.1.2.1.1.2.2=v.1.2.2)&&decide (x.1.2.1.2=v.2))))<;>rfl⟩
 have F:(A.map bN).length=A.length:=ae2 _
 have h:=iT (f:=a0S) (A.map bN) p (λk=>(A.map bN,s,v,src,((A.map bN).length),k,())) (λk=>Sum.inr (k,())) (Sum.inl ()) (λk h D=>by
  simp (disch:=omega) only[K0,a0S,hp (A.map bN)[k],D]) (λk h D=>by
  simp (disch:=omega) only[K0,a0S,hp (A.map bN)[k],D]) (by
  simp[a0S])
 unfold a1X a2v;rw[show ab a0S (A.map bN,s,v,src,((A.map bN).length),0,())=_ from h]
 cases e:(A.map bN).findIdx? p with
 |none=>exact⟨-1,rfl,by decide,by omega⟩
 |some k=>obtain⟨hk,_⟩:=List.findIdx?_eq_some_iff_getElem.1 e;exact⟨k,rfl,by omega,by omega⟩
theorem a2G (hA:A.length<=360) (s:List UInt8) (L:aQ) (k:Nat) (D:ct L) (hk:k<=L.2.1.length):
  (∃(i:Int) (F:Nat),F<=L.2.1.length/\(-1<=i/\i<(A.length:Int))/\a0K s (A.map bN) (L,(k:Int))=some (.inl (i,(L,(F:Int)),())))\/
  (∃v,a0l v/\a0K s (A.map bN) (L,(k:Int))=some (.inr (v,()))):=by
 unfold a0K;rcases oj.rd Zx L k D hk with⟨v,k1,h1,_,e⟩ |⟨v,J,e⟩
 · simp[e];rcases a2E L k1 D h1 with⟨w,k2,h2,_,e⟩ |⟨v2,J,e⟩
   · simp[e];obtain⟨i,e,h⟩:=find_eq hA s v w;rw[e];exact .inl ⟨i,k2,h2,h,rfl⟩
   · grind
 · grind
def a0Y (b:UInt8):Prop:=b=110\/b=99\/b=118\/b=102
theorem a4I (hA:bu A) (hT:(ax A R).length<=400) (U:Int) (no:Int) (ws:List (List UInt8)) (cs:List Int) (Y:ct (no,ws,cs)) (fm:List UInt8) (hf: ∀b∈fm,a0Y b) (h5:fm.length<=5): ∀m j (M:List Int) (D:List UInt8) (k:Nat),fm.length - j=m->j<=fm.length->M.length=j->k<=ws.length->
  (∃ah k',ah.length=fm.length/\k'<=ws.length/\ab a0m (U,D,fm,(j:Int),M,A.map bN,bn A R,no,ws,cs,(k:Int),())=some (.inl (U,ah,bn A R,no,ws,cs,((k':Nat):Int),())))\/
  (∃v,a0l v/\ab a0m (U,D,fm,(j:Int),M,A.map bN,bn A R,no,ws,cs,(k:Int),())=some (.inr (v,()))):=by
 have hs:=hA.many;intro m
 induction m with
 |zero=>
  intro j M D k hm hj hg hk;obtain rfl:j=fm.length:=by omega
  exact .inl ⟨M,k,hg,hk,bk (by simp only[a0m,ak0,decide_false,cond_false])⟩
 |succ m ih=>
  intro j M D k hm hj hg hk;have h:j<fm.length:=by omega
  have Z: ∀x:Int,(M++[x]).length=j+1:=λx=>by rw[ae7,hg];rfl
  have cg: ∀{R:Type} x (q:Option R),J (M.length+[x].length<=1000000000) q=q:=λx q=>ib (by omega)
  rcases hf _ (ab7 h) with e |e |e |e
  · have L:(fm[j]).toNat=110:=by rw[e];rfl
    rcases a2C (no,ws,cs) k Y hk with⟨n,k1,h1,_,F⟩ |⟨v,O,F⟩
    · rw[aZ (v':=(U,D,fm,((j+1):Int),M++[n],A.map bN,bn A R,no,ws,cs,(k1:Int),())) (by
        simp (disch:=omega) only[K0,a0m,L,F,cg])]
      exact ih (j+1) _ D k1 (by omega) h (Z n) h1
    · exact .inr ⟨v,O,bk (by simp (disch:=omega) only[K0,a0m,L,F])⟩
  · have L:(fm[j]).toNat=99:=by rw[e];rfl
    rcases a2H (no,ws,cs) k Y hk with⟨w,k1,h1,_,F⟩ |⟨v,O,F⟩
    · rcases a2G hs w (no,ws,cs) k1 Y h1 with⟨i,k2,h2,_,N⟩ |⟨v,O,N⟩
      · rw[aZ (v':=(U,w,fm,((j+1):Int),M++[i],A.map bN,bn A R,no,ws,cs,(k2:Int),())) (by
          simp (disch:=omega) only[K0,a0m,L,F,N,cg])]
        exact ih (j+1) _ w k2 (by omega) h (Z i) h2
      · exact .inr ⟨v,O,bk (by simp (disch:=omega) only[K0,a0m,L,F,N])⟩
    · exact .inr ⟨v,O,bk (by simp (disch:=omega) only[K0,a0m,L,F])⟩
  · have L:(fm[j]).toNat=118:=by rw[e];rfl
    rcases a2G hs D (no,ws,cs) k Y hk with⟨i,k2,h2,_,N⟩ |⟨v,O,N⟩
    · rw[aZ (v':=(U,D,fm,((j+1):Int),M++[i],A.map bN,bn A R,no,ws,cs,(k2:Int),())) (by
        simp (disch:=omega) only[K0,a0m,L,N,cg])]
      exact ih (j+1) _ D k2 (by omega) h (Z i) h2
    · exact .inr ⟨v,O,bk (by simp only[a0m,dY (show(j:Int)<fm.length by omega),cond_true,cond_false,au h,L,ai (show 118<128 by decide),dN (show¬((118:Nat):Int)=110 by decide),dN (show¬((118:Nat):Int)=99 by decide),dY (show((118:Nat):Int)=118 by rfl),N,aa7])⟩
  · have L:(fm[j]).toNat=102:=by rw[e];rfl
    rcases a2E (no,ws,cs) k Y hk with⟨w,k1,h1,_,F⟩ |⟨v,O,F⟩
    · have hr:=Et A.length (ax A R) (D,w);have N:=aaZ A hA R hT (D,w);rw[aZ (v':=(U,D,fm,((j+1:Nat):Int),M++[cN A.length (ax A R) (D,w) - A.length - 1],A.map bN,bn A R,no,ws,cs,(k1:Int),())) (by simp only[a0m,dY (show(j:Int)<(fm.length:Int) by omega),cond_true,cond_false,au h,L,ai (show 102<128 by decide),dN (show¬((102:Nat):Int)=110 by decide),dN (show¬((102:Nat):Int)=99 by decide),dN (show¬((102:Nat):Int)=118 by decide),dY (show((102:Nat):Int)=102 by rfl),F,N,aa7,ae2,ai (show aa .i64 (cN A.length (ax A R) (D,w) - (A.length:Int)) from bd (by omega)),ai (show aa .i64 (cN A.length (ax A R) (D,w) - (A.length:Int) - 1) from bd (by omega)),cg,aH])]
      exact ih (j+1) _ D k1 (by omega) h (Z _) h1
    · exact .inr ⟨v,O,bk (by simp only[a0m,dY (show(j:Int)<(fm.length:Int) by omega),cond_true,cond_false,au h,L,ai (show 102<128 by decide),dN (show¬((102:Nat):Int)=110 by decide),dN (show¬((102:Nat):Int)=99 by decide),dN (show¬((102:Nat):Int)=118 by decide),dY (show((102:Nat):Int)=102 by rfl),F,aa7])⟩
variable {A:List aq} {R:List al}
def a0P (A:List aq) (R:List al) (cl:List (List Int)):Prop:= ∀x∈cl,a2V A R x
abbrev a2N:=Option ((List Int×(aQ×Int)×Unit)⊕(Value×Unit))
def a0g (A:List aq) (R:List al) (L:aQ) (r:a2N):Prop:=
 (∃x D,D<=L.2.1.length/\a2V A R x/\r=some (.inl (x,(L,((D:Nat):Int)),())))\/(∃v,a0l v/\r=some (.inr (v,())))
theorem a0g.stop {L:aQ} {v:Value} (D:a0l v):a0g A R L (some (.inr (v,()))):=.inr ⟨v,D,rfl⟩
theorem a4R (i:Nat) (h0:1<=i) (F:i<=9): ∃fm,(∀{R:Type} (f:List UInt8->Option R),a1r.bind (λl=>(ag l (i:Int)).bind f)=f fm)/\(∀b∈fm,a0Y b)/\1<=fm.length/\fm.length<=5:=by
 have key: ∀fm:List UInt8,[[],a2W,a2O,a2P,a2Q,a2K,a2R,a2M,a2I,a2L][i]? =some fm->(∀b∈fm,a0Y b)->1<=fm.length->fm.length<=5-> ∃fm,(∀{R:Type} (f:List UInt8->Option R),a1r.bind (λl=>(ag l i).bind f)=f fm)/\(∀b∈fm,a0Y b)/\1<=fm.length/\fm.length<=5:=by intro fm h a b c;refine⟨fm,λf=>?_,a,b,c⟩;unfold a1r;rw[aa7];unfold ag;grind
 have D: ∀l:List UInt8,l.all (λb=>b==110||b==99||b==118||b==102)=true-> ∀b∈l,a0Y b:=λl h b D=>by have:=List.all_eq_true.1 h b D;unfold a0Y;simpa[or_assoc] using this
 match i,h0,F with
 |1,_,_=>exact key a2W rfl (D _ rfl) (by decide) (by decide)
 |2,_,_=>exact key a2O rfl (D _ rfl) (by decide) (by decide)
 |3,_,_=>exact key a2P rfl (D _ rfl) (by decide) (by decide)
 |4,_,_=>exact key a2Q rfl (D _ rfl) (by decide) (by decide)
 |5,_,_=>exact key a2K rfl (D _ rfl) (by decide) (by decide)
 |6,_,_=>exact key a2R rfl (D _ rfl) (by decide) (by decide)
 |7,_,_=>exact key a2M rfl (D _ rfl) (by decide) (by decide)
 |8,_,_=>exact key a2I rfl (D _ rfl) (by decide) (by decide)
 |9,_,_=>exact key a2L rfl (D _ rfl) (by decide) (by decide)
theorem a5b (hA:bu A) (hR:bM R) (hT:(ax A R).length<=400) (i:Nat) (h0:1<=i) (h9:i<=9) (L:aQ) (k:Nat) (N:ct L) (hk:k<=L.2.1.length):a0g A R L (a1P (i:Int) (A.map bN) (bn A R) (L,(k:Int))):=by
 obtain⟨fm,ar,hf,h1,h5⟩:=a4R i h0 h9;unfold a1P;rw[ar];rcases a4I hA hT i L.1 L.2.1 L.2.2 N fm hf h5 fm.length 0 [] [] k rfl (ae3 _) rfl hk with⟨D,k1,hg,O,e⟩ |⟨v,U,e⟩
 · have e:ab a0m (i,[],fm,0,[],A.map bN,bn A R,L.1,L.2.1,L.2.2,k,())=_:=e;rw[e];simp only[aa7];rcases a2J L N k1 O with F |⟨v,U,F⟩
   · have F:=F;have hlen:(D++[0,0,0]).length=fm.length+3:=by rw[ae7,hg];rfl
     have ck: ∀n {R:Type} (q:Option R),n<=3->J (0<=((n:Nat):Int)/\(n:Int)<((D++[0,0,0]).length)) q=q:=λn R q h=>ai ⟨by omega,by omega⟩
     have g: ∀n:Nat,(h:n<=3)->(D++[0,0,0])[(n:Int).toNat]? =some ((D++[0,0,0])[n]'(by omega)):=λn h=>by rw[ae9];grind
     have Y: ∀{R:Type} (q:Option R),J (0<=(0:Int)/\0<((D++[0,0,0]).length:Int)) q=q:=λq=>ck 0 q (by simp)
     have Z: ∀{R:Type} (q:Option R),J (0<=(1:Int)/\1<((D++[0,0,0]).length:Int)) q=q:=λq=>ck 1 q (by simp)
     have ah: ∀{R:Type} (q:Option R),J (0<=(2:Int)/\2<((D++[0,0,0]).length:Int)) q=q:=λq=>ck 2 q (by simp)
     have an: ∀{R:Type} (q:Option R),J (0<=(3:Int)/\3<((D++[0,0,0]).length:Int)) q=q:=λq=>ck 3 q (by simp)
     rw[F];simp only[aa7];rw[ai (by grind)]
     rw[Y,show(D++[0,0,0])[(0:Int).toNat]? =_ from g 0 (by simp),aa7]
     rw[Z,show(D++[0,0,0])[(1:Int).toNat]? =_ from g 1 (by simp),aa7]
     rw[ah,show(D++[0,0,0])[(2:Int).toNat]? =_ from g 2 (by simp),aa7]
     rw[an,show(D++[0,0,0])[(3:Int).toNat]? =_ from g 3 (by simp),aa7]
     rcases a4C hA hR hT (i,(D++[0,0,0])[0]'(by simp),(D++[0,0,0])[1]'(by simp),(D++[0,0,0])[2]'(by simp),(D++[0,0,0])[3]'(by omega)) with⟨x,M,hx⟩ |M
     · rw[M];exact .inl ⟨x,k1,O,hx,rfl⟩
     · rw[M];simp (disch:=omega) only[K0];rw[show cr 4 (L,k1)=_ from cL 4 L N k1 O]
       exact a0g.stop (a0q (by simp) _ _)
   · have F:=F;rw[F];exact a0g.stop U
 · have e:ab a0m (i,[],fm,0,[],A.map bN,bn A R,L.1,L.2.1,L.2.2,k,())=_:=e;rw[e];exact a0g.stop U
variable {A:List aq} {R:List al}
def a3L (number D var:Int) (l:List (List Int)) (take:aQ×Int):a2N:=
 (a0F take).bind λO=>
 match O with
 |.inl (end_,_)=>
  bif decide (number<1) then(cr 4 end_).bind λ(F,_)=>some (.inr (F,()))
  else
   bif decide (D<1) then(cr 4 end_).bind λ(F,_)=>some (.inr (F,()))
   else
    bif decide ((l.length:Int)<number) then(cr 4 end_).bind λ(F,_)=>some (.inr (F,()))
    else
     bif decide ((l.length:Int)<D) then(cr 4 end_).bind λ(F,_)=>some (.inr (F,()))
     else
      bif decide (var=0) then(cr 4 end_).bind λ(F,_)=>some (.inr (F,()))
      else
       J (aa .i64 (number - 1))<|
       J (0<=(number - 1)/\(number - 1)<l.length)<|
       (l[(number - 1).toNat]?).bind λY=>
       J (aa .i64 (D - 1))<|
       J (0<=(D - 1)/\(D - 1)<l.length)<|
       (l[(D - 1).toNat]?).bind λZ=>
       (a0O Y Z var).bind λM=>
       bif !decide (M.2=0) then
        J (aa .i64 (D - 1))<|
        J (0<=(D - 1)/\(D - 1)<l.length)<|
        (l[(D - 1).toNat]?).bind λah=>
        J (aa .i64 (number - 1))<|
        J (0<=(number - 1)/\(number - 1)<l.length)<|
        (l[(number - 1).toNat]?).bind λan=>
        (a0O ah an var).bind λN=>
        bif !decide (N.2=0) then(cr 9 end_).bind λ(L,_)=>some (.inr (L,()))
        else some (.inl (N.1,end_,()))
       else
        bif !decide (M.2=0) then(cr 9 end_).bind λ(L,_)=>some (.inr (L,()))
        else some (.inl (M.1,end_,()))
 |.inr (U,_)=>some (.inr (U,()))
theorem a3D (D F v:Int) (M:v<=1000) (cl:List (List Int)) (ah:a0P A R cl) (hlen:cl.length<=1000000) (L:aQ) (k:Nat) (Y:ct L) (hk:k<=L.2.1.length):a0g A R L (a3L D F v cl (L,(k:Int))):=by
 unfold a3L;rcases a2J L Y k hk with N |⟨v,M,N⟩
 rotate_left
 · rw[N];exact a0g.stop M
 rw[N];have f4:a0g A R L ((cr 4 (L,k)).bind λ(pv,_)=>some (.inr (pv,()))):=by rw[cL 4 L Y k hk];exact a0g.stop (a0q (by simp) _ _)
 have f9:a0g A R L ((cr 9 (L,k)).bind λ(pv,_)=>some (.inr (pv,()))):=by rw[cL 9 L Y k hk];exact a0g.stop (a0q (by simp) _ _)
 by_cases c1:D<1
 · grind
 · rw[dN c1];by_cases c2:F<1
   · grind
   · rw[dN c2];by_cases c3:cl.length<D
     · grind
     · rw[dN c3];by_cases c4:cl.length<F
       · grind
       · rw[dN c4];by_cases c5:v=0
         · grind
         · rw[dN c5];obtain⟨i,rfl⟩: ∃i:Nat,D=(i:Int)+1:=⟨(D - 1).toNat,by omega⟩
           obtain⟨j,rfl⟩: ∃j:Nat,F=(j:Int)+1:=⟨(F - 1).toNat,by omega⟩
           have hi:i<cl.length:=by omega
           have hj:j<cl.length:=by omega
           have ei:(i:Int)+1 - 1=i:=by omega
           have ej:(j:Int)+1 - 1=j:=by omega
           have k1: ∀{R:Type} (q:Option R),J (aa .i64 i) q=q:=λq=>ai (bd (by omega))
           have k2: ∀{R:Type} (q:Option R),J (aa .i64 j) q=q:=λq=>ai (bd (by omega))
           have k3: ∀{R:Type} (q:Option R),J (0<=(i:Int)/\i<(cl.length:Int)) q=q:=λq=>ai ⟨by omega,by omega⟩
           have k4: ∀{R:Type} (q:Option R),J (0<=(j:Int)/\j<(cl.length:Int)) q=q:=λq=>ai ⟨by omega,by omega⟩
           have g1:=ae6 hi;have g2:=ae6 hj;obtain⟨a1,a2⟩:=ah _ (ab7 hi);obtain⟨b1,b2⟩:=ah _ (ab7 hj);obtain⟨hr,an⟩:=a3x cl[i] cl[j] a1 b1 v M;obtain⟨hs,ar⟩:=a3x cl[j] cl[i] b1 a1 v M;simp only[ei,ej,k1,k2,k3,k4,ae9,g1,g2,aa7,hr,hs];cases z:a0u cl[i] cl[j] v with
           |some r=>obtain⟨Z,O,U⟩:=an r z;exact .inl ⟨r,k,hk,⟨U,λc hc hG=>by rw[O];exact a3t Z (a2 c hc hG) (b2 c hc hG)⟩,rfl⟩
           |none=>
            cases z2:a0u cl[j] cl[i] v with
            |some r=>obtain⟨Z,O,U⟩:=ar r z2;exact .inl ⟨r,k,hk,⟨U,λc hc hG=>by rw[O];exact a3t Z (b2 c hc hG) (a2 c hc hG)⟩,rfl⟩
            |none=>exact f9
theorem a4X (hA:bu A) (hR:bM R) (hT:(ax A R).length<=400) (cl:List (List Int)) (ah:a0P A R cl) (hlen:cl.length<=1000000) (L:aQ) (k:Nat) (N:ct L) (hk:k<=L.2.1.length):a0g A R L (a1O (A.map bN) (bn A R) cl (L,(k:Int))):=by
 unfold a1O;rcases a2C L k N hk with⟨n1,k1,h1,_,D⟩ |⟨v,F,D⟩
 · rcases a2C L k1 N h1 with⟨n2,k2,h2,_,M⟩ |⟨v,F,M⟩
   · by_cases h:k2<L.2.1.length
     · have U:=qz L N k2 h;by_cases c:L.2.1[k2]=a3I
       · rcases a2H L (k2+1) N h with⟨w,k4,Z,_,O⟩ |⟨v,F,O⟩
         · rcases a2G hA.many w L k4 N Z with⟨i,k5,h5,hi,Y⟩ |⟨v,F,Y⟩
           · have c1: ∀{R:Type} (q:Option R),J (aa .i64 (i+1)) q=q:=λq=>ai (bd (by have:=hA.many;omega))
             simp only[D,M,U,O,Y,aa7,dY c,cond_true,c1];exact a3D n1 n2 (i+1) (by have:=hA.many;omega) cl ah hlen L k5 N h5
           · simp only[D,M,U,O,Y,aa7,dY c,cond_true];exact a0g.stop F
         · simp only[D,M,U,O,aa7,dY c,cond_true];exact a0g.stop F
       · by_cases c2:L.2.1[k2]=oX
         · rcases a2H L (k2+1) N h with⟨w,k4,Z,_,O⟩ |⟨v,F,O⟩
           · rcases a2E L k4 N Z with⟨f,k5,h5,_,Y⟩ |⟨v,F,Y⟩
             · have hr:=Et A.length (ax A R) (w,f);have e7:=aaZ A hA R hT (w,f);simp only[D,M,U,O,Y,e7,aa7,dN c,dY c2,cond_true,cond_false];exact a3D n1 n2 _ (by have:=hA.many;omega) cl ah hlen L k5 N h5
             · simp only[D,M,U,O,Y,aa7,dN c,dY c2,cond_true,cond_false];exact a0g.stop F
           · simp only[D,M,U,O,aa7,dN c,dY c2,cond_true,cond_false];exact a0g.stop F
         · have hf:=cL 1 L N (k2+1) h;simp only[D,M,U,hf,aa7,dN c,dN c2,cond_true,cond_false];exact a0g.stop (a0q (by simp) _ _)
     · simp[D,M,abP L k2 h,aa7];exact a0g.stop (a0q (by simp) _ _)
   · simp[D,M,aa7];exact a0g.stop F
 · simp[D,aa7];exact a0g.stop F
variable {A:List aq} {R:List al}
def a2U (A:List aq) (R:List al) (m:Nat) (L:aQ) (r:Option ((List sq×pt×Bool×List (List Int)×(aQ×Int)×Unit)⊕(Value×List (List Int)×Unit))):Prop:=
 (∃b cl D,D<=L.2.1.length/\a0P A R cl/\cl.length<=m+1/\r=some (.inl (A.map bN,bn A R,b,cl,(L,((D:Nat):Int)),())))\/(∃v cl,a0l v/\r=some (.inr (v,cl,())))
theorem a3F (b:Bool) {cl:List (List Int)} {L:aQ} {r:a2N} (h:a0g A R L r) (D:a0P A R cl) (hlen:cl.length<=100000):a2U A R cl.length L (r.bind λU=>
  match U with
  |.inl (join,N,_)=>
   J (cl.length+([join]:List (List Int)).length<=1000000000)<|
   some (.inl (A.map bN,bn A R,b,(cl++([join]:List (List Int))),N,()))
  |.inr (Y,_)=>some (.inr (Y,cl,()))):=by
 rcases h with⟨x,O,h1,h2,rfl⟩ |⟨v,F,rfl⟩
 · refine .inl ⟨b,cl++[x],O,h1,λy M=>(ae5.1 M).elim (D y) (λq=>ah3.1 q▸h2),by rw[ae7];exact ab8 _,?_⟩
   simp[aa7];simp (disch:=omega) only[K0]
 · exact .inr ⟨v,cl,F,rfl⟩
theorem a4W (hA:bu A) (hR:bM R) (hT:(ax A R).length<=400) (b:Bool) (cl:List (List Int)) (M:a0P A R cl) (hlen:cl.length<=100000) (L:aQ) (J:ct L):a2U A R cl.length L (a1N (A.map bN) (bn A R) b cl (L,0)):=by
 have h0:0=((0:Nat):Int):=rfl;have hs: ∀{v:Value} {c:List (List Int)},a0l v->a2U A R cl.length L (some (.inr (v,c,()))):=λ{v c} U=>.inr ⟨v,c,U,rfl⟩;unfold a1N;rw[h0];by_cases h:0<L.2.1.length
 · have D:=qz L J 0 h;have hf:cr 1 (L,((0+1:Nat):Int))=some (dt 1 L.1 (aL L (0+1)),()):=cL 1 L J (0+1) h;have Z:a0l (dt 1 L.1 (aL L (0+1))):=a0q (by simp) _ _
   generalize hw:L.2.1[0]=w at D;have hk:a2A=some [[],TA,a1z,a1A,tW,a1w,a1x,a1y,a1u,uj]:=rfl;have F:=SM [[],TA,a1z,a1A,tW,a1w,a1x,a1y,a1u,uj] w (by simp)
   have Y:=kX [[],TA,a1z,a1A,tW,a1w,a1x,a1y,a1u,uj] (λx=>decide (x=w));generalize hg:bG [[],TA,a1z,a1A,tW,a1w,a1x,a1y,a1u,uj] (λx=>decide (x=w))=j at F Y
   have hj:j= -1\/ ∃n:Nat,n<=9/\j=n:=by
    rcases Y with⟨_,e⟩ |⟨n,O,_,e,_⟩
    · exact .inl e
    · exact .inr ⟨n,Nat.le_of_lt_succ O,e⟩
   cases b with
   |false=>
    by_cases c:w=a3B
    · rcases a2J L J (0+1) h with N |⟨v,U,N⟩
      · simp (disch:=omega) only[K0,D,N,hk,F];exact .inl ⟨true,cl,0+1,h,M,by omega,rfl⟩
      · simp (disch:=omega) only[K0,D,N,hk,F];exact hs U
    · simp (disch:=omega) only[K0,D,hf,hk,F];exact hs Z
   |true=>
    by_cases c:w=a1Z
    · simp only[D,hk,F,aa7,cond_true,dY c];exact a3F true (a4X hA hR hT cl M (by omega) L (0+1) J h) M hlen
    · by_cases c2:1<=j
      · simp only[D,hk,F,aa7,cond_true,dN c,dY c2]
        obtain⟨n,O,rfl⟩: ∃n:Nat,n<=9/\j=n:=by
         rcases hj with e |e
         · omega
         · exact e
        exact a3F true (a5b hA hR hT n (by omega) O L (0+1) J h) M hlen
      · simp (disch:=omega) only[K0,D,hf,hk,F];exact hs Z
 · simp only[abP L 0 h];exact hs (a0q (by simp) _ _)
theorem a4J (hA:bu A) (hR:bM R) (hT:(ax A R).length<=400) (ls:List aQ) (ah: ∀L∈ls,ct L) (hn:ls.length<=50000): ∀m i b (cl:List (List Int)),ls.length - i=m->i<=ls.length->a0P A R cl->cl.length<=i->
  (∃M D,a0P A R D/\D.length<=ls.length/\ab a0y (ls,(ls.length:Int),(i:Int),A.map bN,bn A R,b,cl,())=some (.inl (A.map bN,bn A R,M,D,())))\/
  (∃v D,a0l v/\ab a0y (ls,(ls.length:Int),(i:Int),A.map bN,bn A R,b,cl,())=some (.inr (v,D,()))):=by
 intro m
 induction m with
 |zero=>
  intro i b cl hm Z O U;obtain rfl:i=ls.length:=by omega
  exact .inl ⟨b,cl,O,U,bk (by simp[a0y,decide_false])⟩
 |succ m ih=>
  intro i b cl hm Z O U;have h:i<ls.length:=by omega
  have N:=ah _ (ab7 h);rcases a4W hA hR hT b cl O (by omega) ls[i] N with⟨M,D,F,h1,h2,h3,e⟩ |⟨v,D,hv,e⟩
  · have Y:=gb ls[i] F;by_cases c:F<(ls[i]).2.1.length
    · have an:=N.2.1;have e2:(F:Int)+1=((F+1):Int):=by omega
      have c1: ∀{R:Type} (q:Option R),J (aa .i64 ((F+1):Int)) q=q:=λq=>ai (bd (by omega))
      refine .inr ⟨dt 1 (ls[i]).1 (aL ls[i] (F+1)),D,a0q (by simp) _ _,bk ?_⟩
      simp (disch:=omega) only[K0,a0y,e,Y,c1,cL 1 ls[i] N (F+1) c]
    · rw[aZ (v':=(ls,(ls.length:Int),((i+1):Int),A.map bN,bn A R,M,D,())) (by
        simp (disch:=omega) only[K0,a0y,e,Y])]
      exact ih (i+1) M D (by omega) h h2 (by omega)
  · exact .inr ⟨v,D,hv,bk (by simp (disch:=omega) only[K0,a0y,e])⟩
variable {A:List aq} {R:List al}
theorem any_eq (s:List UInt8) (hs:s.length<=20000): ∃ls f,a1q s=some (ls,f)/\(∀L∈ls,ct L)/\ls.length<=20001/\(f.1=0->f=(0,0,0)):=by
 have h1:=aia (s.length+1) (by omega) s.length s 1 [] (ab8 _) hs (by simp) (by simp) (by simp)
 have h1:ab zc (s.length+1,1,s,0,0,0,[],())=some (uk (gI (s.length+1) s 1 [])):=h1;unfold a1q Q2;rw[ai (show aa .i64 (s.length+1) from bd (by omega)),h1]
 cases h:gI (s.length+1) s 1 [] with
 |bad c l J=>have hc:=alz _ _ _ _ _ _ _ _ (ab8 _) h;exact⟨_,_,rfl,(λL D=>by cases D),ae3 _,λq=>absurd (show(c:Int)=0 from q) (by omega)⟩
 |ok ls=>
  obtain⟨h1,h2⟩:=akd (s.length+1) s.length s 1 [] ls (ab8 _) (by simp) (by simp) (λd F=>by cases F) h
  refine⟨_,_,rfl,λL D=>?_,by show(ls.map ur).length<=20001;rw[ae2];omega,λ_=>rfl⟩
  grind
theorem a4U (hA:bu A) (hR:bM R) (s:List UInt8) (hs:s.length<=20000): ∃a b d,a0N s (A.map bN) (R.map aO)=some (a,b,d)/\(a=0-> ∀c:List Int,c.length<=1000000-> ¬Good A R c):=by
 obtain⟨ls,⟨f1,f2,f3⟩,O,an,hn,ah⟩:=any_eq s hs;unfold a0N;simp only[O,aa7];by_cases z:(decide (f1=0)&&(decide (f2=0)&&decide (f3=0)))=true
 · rw[z];simp only[Bool.not_true];rw[TF A hA R hR];by_cases M:400<A.length+(ax A R).length
   · rw[if_pos M];exact⟨_,_,_,rfl,λh=>absurd h (by simp)⟩
   · rw[if_neg M];have hT:(ax A R).length<=400:=by omega
     obtain⟨Y,g1,g2,g3⟩:=L2 A hA R hR hT;rw[g1,aa7];cases h8:decide (8000<(Y.length:Int)) with
     |true=>exact⟨_,_,_,rfl,λh=>absurd h (by simp)⟩
     |false=>
      have hl:=a4J hA hR hT ls an (by omega) ls.length 0 false [] rfl (ae3 _) (λx F=>(List.not_mem_nil F).elim) (ae3 _)
      simp only[cond_false,aa7];unfold a2y;rcases hl with⟨b',cl,Z,hlen,e⟩ |⟨v,cl,hv,e⟩
      · have e:ab a0y (ls,ls.length,0,A.map bN,bn A R,false,[],())=_:=e;rw[e];simp (disch:=omega) only[K0];by_cases c0:(cl.length:Int)=0
        · rw[dY c0];exact⟨_,_,_,rfl,λh=>absurd h (by simp)⟩
        · have U:cl.length - 1=((cl.length - 1:Nat):Int):=by omega
          have N:cl.length - 1<cl.length:=by omega
          have c1: ∀{R:Type} (q:Option R),J (aa .i64 ((cl.length - 1):Int)) q=q:=λq=>ai (bd (by omega))
          have c2: ∀{R:Type} (q:Option R),J (0<=((cl.length - 1):Int)/\((cl.length - 1):Int)<cl.length) q=q:=λq=>ai ⟨by omega,by omega⟩
          have g1:=ae6 N;simp (disch:=omega) only[K0,U,g1];obtain⟨_,hh⟩:=Z _ (ab7 N);by_cases L:0<((cl[cl.length - 1]).length:Int)
          · rw[dY L];exact⟨_,_,_,rfl,λh=>absurd h (by simp)⟩
          · rw[dN L];refine⟨_,_,_,rfl,λ_ c hc hG=>?_⟩;obtain⟨x,F,_⟩:=hh c hc hG;have:0<(cl[cl.length - 1]).length:=List.length_pos_of_mem F;omega
      · obtain⟨er,l,D,rfl,he⟩:=hv;have e:ab a0y (ls,ls.length,0,A.map bN,bn A R,false,[],())=some (Sum.inr (dt er l D,cl,())):=e;have ar:rZ (dt er l D)=some (er,l,D):=rfl;rw[e];simp only[aa7,ar,dN he,Bool.not_false];exact⟨_,_,_,rfl,λh=>absurd h he⟩
 · have z:=aw7.2 z;rw[z];refine⟨_,_,_,rfl,λh=>?_⟩;obtain⟨rfl,rfl,rfl⟩:f1=0/\f2=0/\f3=0:=by have:=ah h;grind
   cases z
theorem a4o:a0L=some true:=by kernel_rfl
theorem a4f (x) (s:List UInt8) (choice:List Int):a1R x s choice=some true:=by
 obtain⟨⟨⟨p,t,U⟩,m⟩,rfl⟩: ∃y,y=x:=⟨x,rfl⟩;have hex:=a4o;unfold a1R;rcases RE p t U m with⟨A,R,hA,hR,F⟩ |F
 · simp (disch:=omega) only[K0,F,hex];by_cases c1:5000<(s.length:Int)
   · grind
   · rw[dN c1];by_cases c2:60<(choice.length:Int)
     · grind
     · rw[dN c2];obtain⟨a,b,d,J,D⟩:=a4U hA hR s (by omega)
       simp only[J,aa7];by_cases z:(decide (a=0)&&(decide (b=0)&&decide (d=0)))=true
       · rw[z];simp (disch:=omega) only[K0]
         have L:a=0:=by
          cases h:decide (a=0) with
          |false=>rw[h] at z;cases z
          |true=>exact of_decide_eq_true h
         have D:=D L;obtain⟨r,ok,k,hs,Z,N⟩:=aou hA hR;obtain⟨w,hw,O⟩:=aoE (c:=choice) hA hR (by omega)
         rw[hs];cases ok with
         |true=>obtain⟨c',Y,hG⟩:=N rfl;exact absurd hG (D c' (by omega))
         |false=>
          simp (disch:=omega) only[K0,hw];have: ¬w=0:=λh=>D choice (by omega) (O h).aJ
          rw[dN this];rfl
       · rw[aw7.2 z];rfl
 · obtain⟨o,M,b⟩:=jj F;simp (disch:=omega) only[K0,M,hex,b]
abbrev a0f:Ty:=.int .i64
abbrev a2h:Ty:=.pair a0f (.pair a0f a0f)
abbrev a1F:Ty:=.pair a2h .str
abbrev a1D:Ty:=.sl (.pair .str (.pair (.sl (.sl (.pair a0f a1F))) (.sl .str)))
abbrev a2Y:Ty:=.pair (.pair .str (.pair a1F (.pair (.int .u64) (.pair (.int .u32) (.pair .bool (.pair a1D (.pair a1D (.sl (.pair .str a1D))))))))) .str
abbrev a1E:Sh:=.v (.ptr (.pair (.sl a2Y) (.pair a1D (.sl (.pair .str .str)))))
abbrev X_8:Ty:=.pair a0f (.pair (.sl .str) (.sl a0f))
abbrev a0I:SO:=.st 297 (.pair X_8 a0f)
abbrev a1c:List Sh:=[.dead,.dead,.dead]
abbrev a1C:SO:=.row 55 (.sl a0f)
abbrev a3a:SO:=.var 207 (.dead::a1c)
abbrev X_e:Shape:=⟨[],[(1000,a3a),(1004,a1C),(1020,.var 297 (.dead::a1c))]⟩
abbrev a2X:Sh:=.v .bool
abbrev a0C:Sh:=.v (.sl a2Y)
abbrev a1B:Nat×SS:=(0,.c (.ptr 3000 0))
abbrev a3N:Nat×SO:=(3000,.var 207 [a0C,a1E,.dead,.dead])
abbrev a2e:Shape:=⟨[],[(1020,.var 297 (.dead::a1c))]⟩
abbrev a0n:SS:=.c (.v (.sl a0f))
abbrev a5d:List (Bool×Shape):=[(false,⟨[(4,a0n)],[(1020,a0I)]⟩),(true,a2e)]
abbrev a3c:List (Nat×Nat):=[(3000,3000),(1020,1020)]
abbrev X_P:Nat×SO:=(1000,.var 207 [a0C,a1E,a2X,.own 1004])
abbrev X_g:List (Nat×SO):=[X_P,(1004,a1C),(1020,a0I)]
abbrev a0h:List (Nat×Nat):=[(1000,1020)]
abbrev a1f:Ky:=.q [1000]
abbrev X_h:List (Nat×bE):=[(2,{ow:=[7],ps:=[(7,a0h)]}),(116,{ow:=[24],ps:=[(24,a0h)]}),(238,{ow:=[35],ps:=[(35,a0h)]}),(958,{ow:=[46],kf:=[(3,a1f),(4,a1f),(7,.r [1020] [1000,1004] true),(9,.u [1004] false),(11,a1f),(12,.u [1000] false)],ps:=[(46,[(3000,1000),(3004,1004),(1020,1020)])]}),(3838,{ow:=[62],kf:=[(3,a1f),(4,a1f),(8,.r [1020] [1000] true),(10,.u [1004] false),(12,a1f),(13,.u [1000] false)],ps:=[(62,[(3000,1000),(1020,1020)])]}),(3839,{ow:=[12],ps:=[(12,a0h)]})]
abbrev a0b:SS:=.c (.v a0f)
abbrev a2n:Ky:=.u [1020] true
abbrev X_j:List (Nat×bE):=[(6,{ow:=[11,13],ps:=[(11,a0h),(13,a0h)]}),(60,{ow:=[15],ps:=[(15,a0h)]}),(62,{ow:=[39],ps:=[(39,a0h)]}),(490,{ow:=[23,24],ps:=[(23,a0h),(24,a3c)]}),(506,{ow:=[69],ps:=[(69,a0h)]}),(1966,{ow:=[33,35],kf:=[(2,.q [3000]),(3,.q [3000]),(5,a2n),(7,a2n)],ps:=[(33,a0h),(35,a0h)]}),(1967,{ow:=[17],ps:=[(17,a0h)]}),(4090,{ow:=[117],ps:=[(117,a0h)]})]
abbrev a1d:SS:=.c (.v (.sl X_8))
abbrev X_m:List (Nat×bE):=[(2042,{ow:=[102],ps:=[(102,a0h)]}),(62682,{ow:=[27],ps:=[(27,a0h)]}),(501468,{ow:=[33],ps:=[(33,a0h)]}),(501469,{ow:=[38],ps:=[(38,a3c)]}),(1002942,{ow:=[47],ps:=[(47,a3c)]}),(8023548,{ow:=[58],kf:=[(2,.q [3000]),(3,.q [3000]),(6,a2n)],ps:=[(58,a0h)]})]
abbrev a0H:Nat×SS:=(0,.c (.ptr 1000 0))
abbrev a2g:SO:=.var 297 [.v a0f,.v (.sl .str),.v (.sl a0f),.v a0f]
abbrev a1b:Nat×SS:=(1,.c (.ptr 1020 0))
abbrev a1a:Shape:=⟨[],[(1000,.var 297 (.dead::a1c))]⟩
abbrev a2f:Nat×bE:=(13,{cut:=[(.normal,⟨[],[]⟩),(.ret,⟨[(4,a0b)],[]⟩)]})
abbrev a0r:SS:=.c (.v .str)
abbrev a0v:SS:=.c (.v (.sl .str))
abbrev X_A:List (Nat×bE):=[(31334,{ow:=[23],ps:=[(23,[(1000,1100),(1004,1104),(1020,20)])]}),(62670,{ow:=[25],ps:=[(25,[(1000,20)])]}),(250685,{ow:=[34],ps:=[(34,[(1000,20)])]})]
abbrev a3d:List (Nat×SO):=[(1104,a1C),(2000,.var 89 a1c)]
abbrev a3b:Nat×SS:=(1,.fn 84 [.ptr 1100 0] [])
abbrev a2l:Nat×SS:=(4,.c (.ptr 2000 0))
abbrev X_G:List (Nat×bE):=[(6,{ow:=[9],ps:=[(9,a0h)]}),(14,{ow:=[17],kf:=[(2,.q [3000]),(3,.q [3000]),(5,.q [7]),(7,a2n)],ps:=[(17,a0h)]})]
abbrev a1G:Nat×SO:=(1100,.var 207 [a0C,a1E,a2X,.own 1104])
abbrev a0B:List (Nat×Nat):=[(1000,1000)]
abbrev a2k:Nat×SS:=(1,.fn 398 [] [.v (.ptr a0f)])
abbrev a0w:List (Nat×SO):=[(1000,a0I)]
abbrev a2m:Sh:=.v (.ptr .str)
abbrev X_Q:SS:=.fn 395 [] [a2m,.v (.ptr a1F),a2m]
abbrev X_R:Shape:=⟨[(5,.c (.own 36)),(15,a1d),(16,a0b),(17,a0b)],[(36,.row 9 .str)]⟩
abbrev a2Z:Nat×SS:=(1,.fn 399 [] [.v (.ptr (.sl a0f))])
abbrev a2j:Bool×Shape:=(false,⟨[(4,a0b)],[]⟩)
abbrev a1e:SO:=.row 3 a0f
abbrev a2i:List (Nat×SO):=[(1104,a1C)]
abbrev X_W:List (Nat×bE):=[(6,{ow:=[9],ps:=[(9,a0B)]}),(250,{ow:=[23],ps:=[(23,a0B)]})]
abbrev X_Z:List (Nat×SS):=[a1B,a1b,(2,a0b),(7,.c (.own 29)),(8,a0r),(18,.c (.ptr 18 0))]
abbrev X_0:List (Bool×Shape):=[(true,X_e)]
abbrev a0D:SS:=.c a2X
abbrev a3f:Bool×Shape:=(false,⟨[(4,a0D)],[]⟩)
abbrev a3e:Shape:=⟨[(0,a0n),(1,a0b)],[]⟩
abbrev a2p:Shape:=⟨[(0,a0r)],[]⟩
abbrev X_4:Nat×SS:=(3000004,.st a2h)
abbrev a2o:SS:=.c (.own 5000)
def a3r:FS:=mkQ [ajN] [] 82 a2p [(false,⟨[(2,a1d),(3000003,.st a2h)],[]⟩)] (k1 a1q)
def a4j:FS:=mkG [] [] 152 ⟨[],[]⟩ [(false,⟨[(0,a0v)],[]⟩)] λx=>a2A
def a2B:FS:=mkHh [dB,tj] [(2,{ow:=[3],ps:=[(3,a0B)]}),(6,{ow:=[5],ps:=[(5,a0B)]})] 153 ⟨[a0H],a0w⟩ [(false,⟨[],a0w⟩),(true,a1a)] (id) (id) (λ_=>rfl) (k1 a0F)
def a3Z:FS:=mkHh [dB,kQ] [(6,{ow:=[9],ps:=[(9,a0B)]}),(58,{ow:=[29],ps:=[(29,a0B)]}),(125,{cut:=[(.normal,⟨[a0H,(1,a0b),(6,a0b)],[(1000,a2g)]⟩),(.dK,a1a)]}),(250,{loop:=some ⟨[a0H,(1,a0b),(5,a0r),(6,a0b),(31,a0b),(32,a0b)],[(1000,a2g)]⟩}),(506,{ow:=[60],ps:=[(60,a0B)]}),(128202,{ow:=[46],ps:=[(46,a0B)]})] 334 ⟨[a0H,(1,a0b)],a0w⟩ [(false,⟨[(4,a0b)],a0w⟩),(true,a1a)] (id) (id) (λ_=>rfl) (k2 a1Q)
def a3q:FS:=mkHh [a3Z] [(6,{ow:=[4],ps:=[(4,a0B)]})] 235 ⟨[a0H],a0w⟩ [(false,⟨[(2,a0b)],a0w⟩),(true,a1a)] (id) (id) (λ_=>rfl) (k1 a0M)
def a4p:FS:=mkQ [D3] [] 237 a2p [(false,⟨[(2,a0r),(3,a0D)],[]⟩)] (k1 a1U)
def a3j:FS:=mkHh [dB,kQ,a4p] X_W 178 ⟨[a0H,(1,.fn 237 [] [])],a0w⟩ [(false,⟨[(4,a0r)],a0w⟩),(true,a1a)] (id) (id) (λ_=>rfl) (k1 a1k)
def a4h:FS:=mkQ [Km] [] 238 a2p [(false,⟨[(2,a0r),(3,a0D)],[]⟩)] (k1 a1T)
def a2x:FS:=mkHh [dB,kQ,a4h] X_W 178 ⟨[a0H,(1,.fn 238 [] [])],a0w⟩ [(false,⟨[(4,a0r)],a0w⟩),(true,a1a)] (id) (id) (λ_=>rfl) (k1 a1j)
def a4g:FS:=mkG [] [] 395 ⟨[(0,.st a2Y),(1,.c a2m),(2,.c (.v (.ptr a1F))),(3,.c a2m)],[]⟩ [(false,⟨[(5,a0D)],[]⟩)] (k4 a0V)
def a3T:FS:=mkG [a4g] [a2f,(26,{loop:=some ⟨[(0,.c a0C),(1,X_Q),(7,a0b),(8,a0b)],[]⟩})] 394 ⟨[(0,.c a0C),(1,X_Q)],[]⟩ [a2j] (k4 a2v)
def a4v:FS:=mkG [a3T] [(6,{rd:=[11]})] 335 ⟨[(0,.c a0C),(1,a0r),(2,.st a1F),(3,a0r)],[]⟩ [(false,⟨[(8,a0b)],[]⟩)] (k4 a1X)
def a3l:FS:=mkHh [VV,a2x,a4v] X_G 236 ⟨[a1B,a1b,(2,a0r)],[(3000,.var 207 [a0C,.dead,.dead,.dead]),(1020,a0I)]⟩ [(false,⟨[(6,a0b)],[(1020,a0I)]⟩),(true,a2e)] (id) (id) (λ_=>rfl) (k3 a0K)
def a4a:FS:=mkG [] [a2f,(26,{loop:=some ⟨[(0,a0n),(1,a0b),(7,a0b),(8,a0b)],[]⟩})] 396 a3e [a2j] (k2 a2z)
def a3m:FS:=mkG [a4a] [] 336 a3e [a3f] (k2 a0U)
def a3p:FS:=mkG [] [] 398 ⟨[(0,a0b),(1,.c (.v (.ptr a0f)))],[]⟩ [(false,⟨[(3,a0D)],[]⟩)] (k2 a1p)
def a3R:FS:=mkG [a3p] [a2f,(26,{loop:=some ⟨[(0,a0n),a2k,(7,a0b),(8,a0b)],[]⟩})] 138 ⟨[(0,a0n),a2k],[]⟩ [a2j] (k2 a2t)
def a3Q:FS:=mkG [a3p,a3R] [(6,{rd:=[10]}),(61,{cut:=[(.normal,⟨[(0,a2o),(5,a0b)],[(5000,a1e)]⟩)]}),(122,{loop:=some ⟨[(0,a2o),a2k,(5,a0b),(6,a0b)],[(5000,a1e)]⟩}),(126,{cn:=[(2,[5000])]})] 64 ⟨[(0,a2o),a2k],[(5000,a1e)]⟩ [(false,⟨[(4,a2o)],[(5000,a1e)]⟩)] (k2 a1M)
def a4s:FS:=mkG [a4u,a3Q] [(6,{pre:=[.vk 3 a0f],ow:=[6],cn:=[(3,[6])],ps:=[(6,[(1,6)]),(8,[(5000,6)])]}),(7,{pre:=[.ba 6]})] 338 a3e [(false,⟨[(4,a0n)],[]⟩)] (k2 a1s)
def a4q:FS:=mkG [a3m] [] 399 ⟨[(0,a0b),(1,.c (.v (.ptr (.sl a0f))))],[]⟩ [(false,⟨[(3,a0D)],[]⟩)] (k2 a1W)
def a3U:FS:=mkG [a4q] [a2f,(26,{loop:=some ⟨[(0,a0n),a2Z,(7,a0b),(8,a0b)],[]⟩})] 138 ⟨[(0,a0n),a2Z],[]⟩ [a2j] (k2 a2w)
def a3S:FS:=mkG [a3U] [] 77 ⟨[(0,a0n),a2Z],[]⟩ [a3f] (k2 a2u)
def a4A:FS:=mkG [a3S] [(6,{rd:=[5]})] 339 ⟨[(0,a0n)],[]⟩ [(false,⟨[(2,a0D)],[]⟩)] (k1 a1Y)
def a4t:FS:=mkQ [a4B,a4A,a4s,a4r,a3m] [] 239 ⟨[(0,a0n),(1,a0n),(2,a0b)],[]⟩ [(false,⟨[(6,a0n),(7,a0b)],[]⟩)] (k3 a0O)
def a3X:FS:=mkHh [a3l,a2B,a3q,dB,kQ,a3j,a2x,a4t,PT] X_j 154 ⟨[a1B,a1b],[(3000,.var 207 [a0C,a1E,.dead,.own 3004]),(3004,a1C),(1020,a0I)]⟩ a5d (id) (id) (λ_=>rfl) (k4 a1O)
def a4k:FS:=mkG [] [] 240 ⟨[],[]⟩ [(false,⟨[(0,a0v)],[]⟩)] λx=>a1r
def a3Y:FS:=mkHh [a3l,a2B,a3q,dB,a3j,a2x,PF,PT,a4k] ((61,{cut:=[(.normal,⟨[a1B,a1b,(2,a0b),(7,.c (.own 29))],[(29,a1e),(3000,.var 207 [.dead,a1E,.dead,.dead]),(1020,a2g)]⟩),(.dK,a2e)]})::(62,{ow:=[73],ps:=[(73,a0h)]})::(122,{pre:=[.dz 7 29 (.row [] 3 a0f [])],loop:=some ⟨X_Z,((18,.var 4294967295 [.v .str,.v a0f])::(29,a1e)::a3N::[(1020,a2g)])⟩})::X_m) 155 ⟨[a1B,a1b,(2,a0b)],[a3N,(1020,a0I)]⟩ [(false,⟨[(6,a0n)],[(1020,a0I)]⟩),(true,a2e)] (id) (id) (λ_=>rfl) (k4 a1P)
def a3W:FS:=mkHh [a3Y,a3X,a2B,dB,kQ,a4j,IT] X_h 84 ⟨[a0H,a1b],X_g⟩ ((false,⟨[],X_g⟩)::X_0) (id) (id) (λ_=>rfl) (λx=>a1N x.1 x.2.1 x.2.2.1 x.2.2.2.1 x.2.2.2.2.1)
def ae4:FS:=mkEach [a3W,dB,tj] ((61,{cut:=[(.normal,⟨[a2l],(a1G::a3d)⟩),(.dK,⟨[a2l],((1100,a3a)::a3d)⟩)]})::(122,{loop:=some ⟨[a3b,a2l,(12,a1d),(13,a0b),(14,a0b)],(a1G::a3d)⟩})::X_A) ⟨[(0,a1d),a3b],(a1G::a2i)⟩ ⟨[(0,a1d),a3b,a2l],((2000,.var 89 a1c)::a1G::a2i)⟩ ⟨[X_4],(a1G::a2i)⟩ ⟨[X_4],((1100,a3a)::a2i)⟩ (id) (id) (λ_=>rfl) (λx=>a2y x.1 x.2.1 x.2.2.1 x.2.2.2.1 x.2.2.2.2.1) (by kernel_rfl) (λx=>by kernel_rfl)
def a3s:FS:=mkG [ae4,Qq,a3r] [(508,{pre:=[.da 39 3 639 (.row [] 55 (.sl a0f) [])],ow:=[43],ps:=[(43,[(1100,39),(1104,639)])]})] 35 ⟨[(0,a0r),(1,.c a0C),(2,.c (.v a1D))],[]⟩ [(false,⟨[(3000006,.st a2h)],[]⟩)] (k3 a0N)
def a4i:FS:=mkG [] [(63,{pre:=[.ba 31,.ba 46]})] 148 ⟨[(0,a0v)],[]⟩ [(false,⟨[(2,a0v)],[]⟩)] (k1 a3u)
def a4l:FS:=mkG [a4i,a3r,yh] [(61,{cut:=[(.normal,⟨[(5,.c (.own 36))],[(36,.row 9 .str)]⟩)]}),(63,{pre:=[.ba 36]}),(122,{pre:=[.dz 5 36 (.row [] 9 .str [])],loop:=some X_R}),(15667,{cut:=[(.normal,X_R)]}),(31334,{loop:=some ⟨[(5,.c (.own 36)),(15,a1d),(16,a0b),(17,a0b),(23,a0v),(24,a0b),(25,a0b)],[(36,.row 9 .str)]⟩}),(4010802,{rd:=[31]})] 81 a2p [(false,⟨[(2,a0v)],[]⟩)] (k1 a3v)
def a4w:FS:=mkG [] [(29,{cut:=[(.normal,⟨[],[]⟩),(.ret,⟨[(4,.c (.kb false))],[]⟩)]}),(58,{loop:=some ⟨[(0,a0v),(1,a0v),(5,a0b)],[]⟩})] 80 ⟨[(0,a0v),(1,a0v)],[]⟩ [a3f] (k2 a3C)
def a4e:FS:=mkG [a3s,a4l,PS,a4w] [] 34 ⟨[],[]⟩ [(false,⟨[(0,a0D)],[]⟩)] λx=>a0L
def a3n:FS:=mkG [a3s,PS,a4e,akf,am8] [] 9 ⟨[(0,.st (.pair (.pair .str (.pair .str (.sl .str))) .str)),(1,a0r),(2,a0n)],[]⟩ [(false,⟨[(6,a0D)],[]⟩)] (k3 a1R)
section
open Go.WideShapes
theorem explainSound_walk (p t m:ByteArray) (L:List (List UInt8)) (D:Value) (s:ByteArray) (J:Value) (l:List (Int)) (w:World) (Z:RowOf 1 StrC w D L) (U:RowOf 1 IntsC w J l) (ht:TabOk w.heap[tabB]?):
  Calls Tryz.prog 9 #[.agg #[.string p,.string t,D,.string m],.string s,J] w λe w'=>e=.returned (.bool true)/\Below w.heap.size w w':=by
 have O:a3n.F _ (((p.data.toList,t.data.toList,L),m.data.toList),s.data.toList,l,()) some=some (true,()):=by show(a1R _ _ _).bind _=_;rw[a4f _ _ _];rfl
 obtain⟨o,h1,h2⟩:=a3n.ok _ _ _ _ O;have M:=(Option.some.inj h1);subst M;have N:fo Tryz.prog 9 [.agg [.v .str p.data.toList,.v .str t.data.toList,.v (.sl .str) L,.v .str m.data.toList],.c (.v .str s.data.toList),.c (.v (.sl (.int .i64)) l)] [] (.ret (.c (.v .bool true)) []):=h2;refine(N.run (A:=λb _=>b<w.heap.size) (w:=w) (vals:=[.agg #[.string p,.string t,D,.string m],.string s,J]) (λ_ _ q=>q) ht (.cons ⟨[.string p,.string t,D,.string m],rfl,.cons (jH p) (.cons (jH t) (.cons (EW Z) (.cons (jH m) .nil)))⟩ (.cons (jH (h:=eU) s) (.cons (anG U) .nil)))).mono ?_;rintro e w' ⟨x,c',rfl,Y,hx⟩;exact⟨by rw[sc hx (v:=.bool true) rfl],Y.below⟩
end
end
end Go.Proofs.YtejhifnjgoclpaaGreatDoor.Fx
