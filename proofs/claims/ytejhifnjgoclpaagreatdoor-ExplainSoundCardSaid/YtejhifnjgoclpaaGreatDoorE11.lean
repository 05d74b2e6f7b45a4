/- Parts of the proofs, put together by a program. -/
import Derived.Test.YtejhifnjgoclpaaGreatDoorE10
set_option linter.unusedVariables false
set_option linter.unusedSimpArgs false
open Option renaming bind_some->aa7
open List renaming getElem_mem->ab7,length_map->ae2,mem_append->ae5,getElem?_eq_getElem->ae6,length_append->ae7,length_cons->af2,append_nil->ag5,map_append->ag9,mem_singleton->ah3,drop_eq_getElem_cons->ak7,mem_map->ar1,getElem_map->ar7,take_append_drop->as0,take_length->as1,append_assoc->as2,length_nil->as5,length_pos_iff->at0,all_cons->at1,length_drop->at6,drop_length->au0,length_eq_zero_iff->au1,drop_eq_nil_of_le->au2,drop_zero->au3,map_map->au4,length_singleton->au6,length_set->av0,any_eq_true->aw9
open Nat renaming le_refl->ab8,zero_le->ae3,lt_of_lt_of_le->au5
open Bool renaming and_eq_true->ad0,not_true->ae8,false_eq_true->af7,not_false->am7,true_and->at4,false_and->av1,and_true->av6,and_self->aw2
open Int renaming toNat_natCast->ae9
namespace Go.Proofs.YtejhifnjgoclpaaGreatDoor.Fx
open Go.RowKit
set_option maxRecDepth 1000000
noncomputable section
theorem Qe (op:Int):EX op=some (bZ op):=by
 unfold EX bZ;by_cases h1:op=1
 · rw[dY h1,if_pos h1];rfl
 rw[dN h1,if_neg h1];by_cases h2:op=2
 · rw[dY h2,if_pos h2];rfl
 rw[dN h2,if_neg h2];by_cases D:op=3
 · rw[dY D,if_pos D];rfl
 rw[dN D,if_neg D];by_cases F:op=4
 · rw[dY F,if_pos F];rfl
 rw[dN F,if_neg F];by_cases J:op=5
 · rw[dY J,if_pos J];rfl
 rw[dN J,if_neg J];by_cases L:op=6
 · rw[dY L,if_pos L];rfl
 rw[dN L,if_neg L];by_cases M:op=7
 · rw[dY M,if_pos M];rfl
 rw[dN M,if_neg M];by_cases N:op=8
 · rw[dY N,if_pos N];rfl
 rw[dN N,if_neg N];rfl
def iM (s p:List UInt8):Bool:=decide (s.take p.length=p)
theorem Xc (s p:List UInt8) (hs:s.length<=20000):CL s p=some (iM s p):=by
 unfold CL iM;by_cases h:p.length<=s.length
 · rw[dY (show(p.length:Int)<=s.length by omega)]
   simp_all;rfl
 · have D: ¬s.take p.length=p:=λe=>by
     grind
   grind
theorem Qr (s p:List UInt8) (hs:s.length<=20000):De s p=some (if iM s p=true then(s.drop p.length,true) else(s,false)):=by
 unfold De Pt;rw[Xc s p hs];cases h:iM s p with
 |false=>rfl
 |true=>
  have hle:p.length<=s.length:=by grind[iM]
  simp_all;rfl
theorem tI {V R α:Type} {f:V->Option (V⊕R)} (l:List α) (p:α->Bool) (st:Nat->V) (a:α->R) (b:R)
  (h1: ∀k (h:k<l.length),p l[k]=false->f (st k)=some (.inl (st (k+1))))
  (h2: ∀k (h:k<l.length),p l[k]=true->f (st k)=some (.inr (a l[k])))
  (F:f (st l.length)=some (.inr b)):ab f (st 0)=some ((l.find? p).elim b a):=by
 have: ∀n k,l.length - k=n->k<=l.length->ab f (st k)=some (((l.drop k).find? p).elim b a):=by
  intro n
  induction n with
  |zero=>grind[bJ]
  |succ n L=>
   intro k J hk;have D:k<l.length:=by omega
   rw[bJ,ak7 D];cases hp:p l[k] with
   |true=>grind
   |false=>grind
 grind
def uw (c:Nat):Bool:=decide (48<=c)&&decide (c<=57)
def cY (s:List UInt8):Nat:=ak uw s 0
def ops:List Int:=[1,3,5,2,4,6,7,0]
def uD:List Int:=[0,1,2,3,4,5,6,7]
def mc (g:List UInt8):Option Int:=uD.find? λop=>decide (g=bZ op)
def fb (s:List UInt8):Bool:=decide (s=[42])||match mc (s.take (cY s)) with
 |some _=>dc (s.drop (cY s))
 |none=>false
def jN (s:List UInt8):cO:=if s=[42] then(8,(0,0,0),[]) else match mc (s.take (cY s)) with
 |some op=>(op,aR (s.drop (cY s)))
 |none=>(0,(0,0,0),[])
theorem aj4 {c x:UInt8} {a:List UInt8} {r:List (List UInt8)}: ∀{l:List UInt8},aB c l=(x::a)::r-> ∃t,l=x::t:=by
 intro l h;cases l with
 |nil=>cases h
 |cons b t=>grind[aB]
theorem Yo {s:List UInt8} (h:dc s=true): ∃c t,s=c::t/\48<=c.toNat/\c.toNat<=57:=by
 obtain⟨a,b,c,J,D,_,_⟩:=Qv h;unfold dj at D;simp only[ad0] at D;cases a with
 |nil=>grind
 |cons x a=>
  obtain⟨t,L⟩:=aj4 J;have F:=D.2;rw[at1,ad0] at F;have F:=pa F.1;cases s with
  |nil=>grind
  |cons y s=>
   have:y=x:=by
    cases hk:ak bo (y::s) 0 with
    |zero=>grind
    |succ k=>grind
   grind
theorem an0 {g r:List UInt8} {c:UInt8} (D: ∀b∈g,uw b.toNat=false) (hc:uw c.toNat=true):cY (g++c::r)=g.length:=by simp_all[cY,ak]
theorem alw {op:Int}: ∀b∈bZ op,uw b.toNat=false:=by
 unfold bZ;intro b D;split at D
 · revert b;decide
 split at D
 · revert b;decide
 split at D
 · revert b;decide
 split at D
 · revert b;decide
 split at D
 · revert b;decide
 split at D
 · revert b;decide
 split at D
 · revert b;decide
 split at D
 · revert b;decide
 · revert b;decide
theorem Fg {c:UInt8}:uw c.toNat=true<->48<=c.toNat/\c.toNat<=57:=by simp[uw]
theorem anq {op:Int} (h:op∈ops):mc (bZ op)=some op:=by
 have D: ∀op∈ops,mc (bZ op)=some op:=by decide
 grind
theorem Rr {g:List UInt8} {op:Int} (h:mc g=some op):g=bZ op/\op∈ops:=by
 unfold mc at h;have h1:=List.mem_of_find?_eq_some h;have D: ∀op∈uD,op∈ops:=by decide
 grind
theorem aoU {c:UInt8} (r:List UInt8) (hc:uw c.toNat=true) {op:Int} (h:op∈ops):ops.find? (λp=>iM (bZ op++c::r) (bZ p))=some op:=by
 have hc:=Fg.1 hc;have n61: ¬c=61:=λe=>by subst e;grind
 unfold ops at h⊢;simp[List.not_mem_nil] at h;rcases h with rfl |rfl |rfl |rfl |rfl |rfl |rfl |rfl<;>simp [iM,bZ,n61]
theorem aps {s:List UInt8} {op:Int} (hf:ops.find? (λp=>iM s (bZ p))=some op) (J:dc (s.drop (bZ op).length)=true):cY s=(bZ op).length/\mc (s.take (cY s))=some op:=by
 have h1:=List.find?_some hf;have h2:=List.mem_of_find?_eq_some hf;unfold iM at h1;have h1:=of_decide_eq_true h1;obtain⟨c,t,F,hc⟩:=Yo J;have e:s=bZ op++c::t:=by rw[<-F];have:=as0 (bZ op).length s;grind
 have D:cY s=(bZ op).length:=by rw[e];exact an0 alw (Fg.2 hc)
 exact⟨D,by rw[D,h1];exact anq h2⟩
theorem RD {s:List UInt8} {op:Int} (F:mc (s.take (cY s))=some op) (L:dc (s.drop (cY s))=true):ops.find? (λp=>iM s (bZ p))=some op/\cY s=(bZ op).length:=by
 obtain⟨h1,h2⟩:=Rr F;obtain⟨c,t,J,hc⟩:=Yo L;have e:s=bZ op++c::t:=by rw[<-h1,<-J,as0]
 have D:cY s=(bZ op).length:=by grind
 refine⟨?_,D⟩;have:=aoU t (Fg.2 hc) h2;grind
theorem WX (s:List UInt8) (hs:s.length<=20000): ∃x,Lg s=some (x,fb s)/\(fb s=true->x=jN s):=by
 unfold Lg;by_cases h:s=kr
 · rw[dY h];have h':s=[42]:=h;have hO:fb s=true:=by unfold fb;rw[dY h'];rfl
   exact⟨_,by rw[hO];rfl,λ_=>by unfold jN;rw[if_pos h']⟩
 · have h': ¬s=[42]:=h;rw[dN h]
   have J:ab zf (s,ops,ops.length,0,0,0,0,0,[],())=some ((ops.find? (λp=>iM s (bZ p))).elim (Sum.inl (0,0,0,0,[],())) (λop=>Sum.inr ((jO (s.drop (bZ op).length)).2,op,(jO (s.drop (bZ op).length)).1.1.1,(jO (s.drop (bZ op).length)).1.1.2.1,(jO (s.drop (bZ op).length)).1.1.2.2,(jO (s.drop (bZ op).length)).1.2,()))):=by
    refine tI ops (λp=>iM s (bZ p)) (λk=>(s,ops,(ops.length:Int),(k:Int),0,0,0,0,[],())) (λop=>Sum.inr ((jO (s.drop (bZ op).length)).2,op,(jO (s.drop (bZ op).length)).1.1.1,(jO (s.drop (bZ op).length)).1.1.2.1,(jO (s.drop (bZ op).length)).1.1.2.2,(jO (s.drop (bZ op).length)).1.2,())) (Sum.inl (0,0,0,0,[],())) (λk h hp=>?_) (λk h hp=>?_) ?_
    · have hk:k<8:=h;simp only[zf,dY (show(k:Int)<ops.length by show(k:Int)<8;omega),cond_true,au h,Qe,aa7,Qr s _ hs,hp,af7,if_false,cond_false,aH,aw (show k+1<=4611686018427387904 by omega)]
    · have hk:k<8:=h;simp only[zf,dY (show(k:Int)<ops.length by show(k:Int)<8;omega),au h,Qe,aa7,Qr s _ hs,hp,if_true]
      rw[Wo _ (show(s.drop (bZ ops[k]).length).length<=20000 by rw[at6];omega)];rfl
    · simp[zf]
   simp only[cond_false];rw[show ab zf (s,[1,3,5,2,4,6,7,0],(([1,3,5,2,4,6,7,0]:List (Int)).length:Int),0,0,0,0,0,[],())=_ from J,aa7]
   cases hf:ops.find? (λp=>iM s (bZ p)) with
   |none=>
    refine⟨(0,(0,0,0),[]),?_,?_⟩
    · have hO:fb s=false:=by
        cases hO:fb s with
        |false=>rfl
        |true=>
         exfalso;unfold fb at hO;rw[dN h'] at hO;split at hO
         · rename_i op D;have:=(RD D hO).1;rw[hf] at this;cases this
         · cases hO
      rw[hO];rfl
    · intro hO;exfalso;unfold fb at hO;rw[dN h'] at hO;split at hO
      · rename_i op D;have:=(RD D hO).1;rw[hf] at this;cases this
      · cases hO
   |some op=>
    simp only[Option.elim_some];by_cases F:dc (s.drop (bZ op).length)=true
    · obtain⟨c1,c2⟩:=aps hf F;have hO:fb s=true:=by unfold fb;rw[dN h',c2];simp[];rw[c1];exact F
      simp_all[jO,jN,c1]
    · have hO:fb s=false:=by
        cases hO:fb s with
        |false=>rfl
        |true=>
         exfalso;unfold fb at hO;rw[dN h'] at hO;split at hO
         · rename_i M D;obtain⟨L,N⟩:=RD D hO;rw[hf] at L;grind
         · cases hO
      simp_all[jO,hO]
def bX (v:cP):Ny:=(v.1.1,v.1.2.1,v.1.2.2,if v.2=[] then[] else aB 46 v.2)
theorem SV {s:List UInt8} (h:dc s=true):pw s=bX (aR s):=by unfold pw bX;rw[S5 h]
abbrev acR:=Int×Ny
def fJ (c:cO):acR:=(c.1,bX c.2)
theorem Xn (k:Nat) (h:k<8):R0 (k:Int)=some (bZ (k:Int)):=by
 match k,h with
 |0,_=>rfl
 |1,_=>rfl
 |2,_=>rfl
 |3,_=>rfl
 |4,_=>rfl
 |5,_=>rfl
 |6,_=>rfl
 |7,_=>rfl
 |k+8,h=>omega
theorem ZW (k:Nat) (h:k<uD.length):uD[k]=(k:Int):=by
 match k,h with
 |0,_=>rfl
 |1,_=>rfl
 |2,_=>rfl
 |3,_=>rfl
 |4,_=>rfl
 |5,_=>rfl
 |6,_=>rfl
 |7,_=>rfl
 |k+8,h=>exact absurd h (by show¬k+8<8;omega)
theorem ajD (s:List UInt8) (hs:s.length<=20000):ab zV (s,0,0,0,0,0,())=some (s,(cY s:Int),0,0,0,0,()):=by
 refine rN (λk=>(s,(k:Int),0,0,0,0,())) (λk=>(s,(k:Int),0,0,0,0,())) uw s (λk hk hp=>?_) (λk hk hp=>?_) 0 (ae3 _)
 · have F: ¬(48<=(s[k]).toNat/\(s[k]).toNat<=57):=λg=>by
     rw[<-fC hk] at hp;rw[Fg.2 g] at hp;grind
   by_cases c1:((s[k]).toNat)<48
   · simp (disch:=omega) only[K0,zV]
   · simp (disch:=omega) only[K0,zV]
 · by_cases D:k<s.length
   · have hp:=hp D;rw[<-fC D] at hp;have:=Fg.1 hp;simp (disch:=omega) only[K0,zV]
   · simp (disch:=omega) only[K0,zV]
def n9 (s:List UInt8):Ny×Bool:=if dc s=true then(pw s,true) else((0,0,0,[]),false)
theorem XW (s:List UInt8) (hs:s.length<=20000): ∃x,Mf s=some (x,fb s)/\(fb s=true->x=fJ (jN s)):=by
 unfold Mf;by_cases h:s=kr
 · rw[dY h];have h':s=[42]:=h;have hO:fb s=true:=by unfold fb;rw[dY h'];rfl
   exact⟨_,by rw[hO];rfl,λ_=>by unfold jN;rw[if_pos h'];rfl⟩
 · have h': ¬s=[42]:=h;have L:cY s<=s.length:=rV _ _ _ (ae3 _);have J:(s.drop (cY s)).length<=20000:=by rw[at6];omega
   have F:ab Fb (s,(cY s),0,0,0,0,0,())=some ((uD.find? (λp=>decide (s.take (cY s)=bZ p))).elim (Sum.inl (0,0,0,0,())) (λop=>Sum.inr ((n9 (s.drop (cY s))).2,op,(n9 (s.drop (cY s))).1.1,(n9 (s.drop (cY s))).1.2.1,(n9 (s.drop (cY s))).1.2.2.1,(n9 (s.drop (cY s))).1.2.2.2,()))):=by
    refine tI uD (λp=>decide (s.take (cY s)=bZ p)) (λk=>(s,(cY s:Int),(k:Int),0,0,0,0,())) (λop=>Sum.inr ((n9 (s.drop (cY s))).2,op,(n9 (s.drop (cY s))).1.1,(n9 (s.drop (cY s))).1.2.1,(n9 (s.drop (cY s))).1.2.2.1,(n9 (s.drop (cY s))).1.2.2.2,())) (Sum.inl (0,0,0,0,())) (λk h hp=>?_) (λk h hp=>?_) ?_
    · have hk:k<8:=h;rw[ZW k h] at hp;simp only[Fb,cond_true,Xn k hk,ae9];simp (disch:=omega) only[K0];rw[show decide ((s.take (cY s)).drop (0:Int).toNat=bZ k)=false from hp]
      simp (disch:=omega) only[K0]
    · have hk:k<8:=h;rw[ZW k h] at hp⊢;simp only[Fb,cond_true,Xn k hk,ae9];simp (disch:=omega) only[K0];rw[show decide ((s.take (cY s)).drop (0:Int).toNat=bZ k)=true from hp]
      simp[cond_true];simp (disch:=omega) only[as1,y8 _ J];rfl
    · have: ¬(uD.length:Int)<8:=by decide
      simp (disch:=omega) only[K0,Fb]
   simp (disch:=omega) only[K0,ajD s hs,F];have hO:fb s=match mc (s.take (cY s)) with|some _=>dc (s.drop (cY s)) |none=>false:=by unfold fb;grind
   have hC:jN s=match mc (s.take (cY s)) with|some op=>(op,aR (s.drop (cY s))) |none=>(0,(0,0,0),[]):=by unfold jN;grind
   have hf:uD.find? (λp=>decide (s.take (cY s)=bZ p))=mc (s.take (cY s)):=rfl;rw[hf,hO,hC];cases mc (s.take (cY s)) with
   |none=>simp
   |some op=>
    simp only[Option.elim_some];cases D:dc (s.drop (cY s)) with
    |false=>exact⟨_,by unfold n9;rw[D];rfl,λg=>by cases g⟩
    |true=>exact⟨fJ (op,aR (s.drop (cY s))),by unfold n9;rw[D];simp[if_true];rw[SV D];rfl,λ_=>rfl⟩
theorem LZ {V R α β:Type} {f:V->Option (V⊕R)} (l:List α) (ok:α->Bool) (val:α->β) (st:Nat->List β->V) (a:List β->R) (b:R)
  (h1: ∀k (h:k<l.length) (out:List β),out.length=k->ok l[k]=true->f (st k out)=some (.inl (st (k+1) (out++[val l[k]]))))
  (h2: ∀k (h:k<l.length) (out:List β),out.length=k->ok l[k]=false->f (st k out)=some (.inr b))
  (J: ∀out:List β,f (st l.length out)=some (.inr (a out))):ab f (st 0 [])=some (if l.all ok=true then a (l.map val) else b):=by
 have: ∀n k out,l.length - k=n->k<=l.length->out.length=k->ab f (st k out)=some (if(l.drop k).all ok=true then a (out++(l.drop k).map val) else b):=by
  intro n
  induction n with
  |zero=>
   intro k out L hk F;have e:k=l.length:=by omega
   simp_all[bJ,J,au0,List.map_nil,ag5]
  |succ n M=>
   intro k out L hk F;have D:k<l.length:=by omega
   rw[bJ,ak7 D,at1];cases hp:ok l[k] with
   |true=>
    rw[h1 k D out F hp];show ab f (st (k+1) (out++[val l[k]]))=_;rw[M (k+1) (out++[val l[k]]) (by omega) (by omega) (by grind),as2]
    rfl
   |false=>grind
 simp_all
def mX (s:List UInt8):Bool:=decide ((aB 44 s).length<=4)&&(aB 44 s).all fb
def mf (s:List UInt8):List cO:=(aB 44 s).map jN
def iH (s:List UInt8):Bool:=decide (s.length<=80)&&decide ((aB 124 s).length<=4)&&(aB 124 s).all mX
def dU (s:List UInt8):List (List cO):=(aB 124 s).map mf
theorem aqa (s:List UInt8) (hs:s.length<=20000):strings_Split s TX=some (aB 44 s):=by grind[strings_Split,TX]
theorem aor (s:List UInt8) (hs:s.length<=20000):strings_Split s TB=some (aB 124 s):=by grind[strings_Split,TB]
theorem Xh (s:List UInt8) (hs:s.length<=20000):LO s=some (if mX s=true then(mf s,true) else([],false)):=by
 obtain⟨N,O⟩:=mA 44 s;unfold LO mX;simp[aqa s hs];by_cases M:4<(aB 44 s).length
 · grind
 · simp (disch:=omega) only[K0]
   have J:ab Ev (aB 44 s,((aB 44 s).length),0,[],())=some (if(aB 44 s).all fb=true then Sum.inl ((aB 44 s).map jN,()) else Sum.inr ()):=by
    refine LZ (aB 44 s) fb jN (λk out=>(aB 44 s,((aB 44 s).length:Int),(k:Int),out,())) (λout=>Sum.inl (out,())) (Sum.inr ()) (λk h out L hp=>?_) (λk h out L hp=>?_) (λout=>?_)
    · obtain⟨x,D,F⟩:=WX ((aB 44 s)[k]) (by grind)
      rw[hp] at D;have F:=F hp;subst F;simp[Ev,au h,D];simp (disch:=omega) only[K0]
    · obtain⟨x,D,F⟩:=WX ((aB 44 s)[k]) (by grind)
      simp (disch:=omega) only[K0,hp,Ev,D]
    · simp[Ev]
   simp (disch:=omega) only[J];unfold mf;grind
theorem aiL (s:List UInt8) (hs:s.length<=20000):Ew s=some (if iH s=true then(dU s,true) else([],false)):=by
 obtain⟨N,O⟩:=mA 124 s;unfold Ew iH;simp[aor s hs];by_cases M:80<s.length
 · grind
 by_cases L:4<(aB 124 s).length
 · grind
 · simp (disch:=omega) only[K0]
   have F:ab DU (aB 124 s,((aB 124 s).length),0,[],())=some (if(aB 124 s).all mX=true then Sum.inl ((aB 124 s).map mf,()) else Sum.inr ()):=by
    refine LZ (aB 124 s) mX mf (λk out=>(aB 124 s,((aB 124 s).length:Int),(k:Int),out,())) (λout=>Sum.inl (out,())) (Sum.inr ()) (λk h out J hp=>?_) (λk h out J hp=>?_) (λout=>?_)
    · have D:=Xh ((aB 124 s)[k]) (by grind)
      simp (disch:=omega) only[K0,DU,D]
    · have D:=Xh ((aB 124 s)[k]) (by grind)
      simp_all;simp (disch:=omega) only[K0,DU,D]
    · simp[DU]
   simp (disch:=omega) only[F];unfold dU;grind
theorem XY (s:List UInt8) (hs:s.length<=20000):qB s 44=some (aB 44 s):=QS s hs 44
theorem akw (s:List UInt8) (hs:s.length<=20000):qB s 124=some (aB 124 s):=QS s hs 124
theorem Qh (s:List UInt8) (hs:s.length<=20000):zU s=some (if iH s=true then((dU s).map (λa=>a.map fJ),true) else([],false)):=by
 obtain⟨U,l2⟩:=mA 124 s;unfold zU iH;simp only[akw s hs];by_cases Z:80<s.length
 · grind
 by_cases Y:4<(aB 124 s).length
 · simp (disch:=omega) only[K0];rfl
 · simp (disch:=omega) only[K0]
   have O:ab Ef (aB 124 s,0,[],())=some (if(aB 124 s).all mX=true then Sum.inl ((aB 124 s).map (λp=>(mf p).map fJ),()) else Sum.inr ()):=by
    refine LZ (aB 124 s) mX (λp=>(mf p).map fJ) (λk out=>(aB 124 s,(k:Int),out,())) (λout=>Sum.inl (out,())) (Sum.inr ()) (λk h out L hp=>?_) (λk h out L hp=>?_) (λout=>?_)
    all_goals try
     have M:((aB 124 s)[k]).length<=20000:=by have:=U _ (ab7 h);omega
     obtain⟨m1,m2⟩:=mA 44 ((aB 124 s)[k])
     have J:ab Eg (aB 124 s,k,aB 44 ((aB 124 s)[k]),0,[],out,())=some (if(aB 44 ((aB 124 s)[k])).all fb=true then Sum.inl (aB 124 s,(k:Int),(aB 44 ((aB 124 s)[k])).map (λx=>fJ (jN x)),out,()) else Sum.inr ()):=by
      refine LZ (aB 44 ((aB 124 s)[k])) fb (λx=>fJ (jN x)) (λj o=>(aB 124 s,(k:Int),aB 44 ((aB 124 s)[k]),(j:Int),o,out,())) (λo=>Sum.inl (aB 124 s,(k:Int),o,out,())) (Sum.inr ()) (λj h o L hp=>?_) (λj h o L hp=>?_) (λo=>?_)
      · obtain⟨x,D,F⟩:=XW ((aB 44 ((aB 124 s)[k]))[j]) (by grind)
        rw[hp] at D;have F:=F hp;subst F;simp only[Eg,cond_true,au h,D,aa7];simp (disch:=omega) only[K0]
      · obtain⟨x,D,F⟩:=XW ((aB 44 ((aB 124 s)[k]))[j]) (by grind)
        rw[hp] at D;simp (disch:=omega) only[K0,Eg,D]
      · simp[Eg,cond_false]
    · unfold mX at hp;rw[ad0] at hp;have N:=of_decide_eq_true hp.1;rw[if_pos hp.2] at J;simp only[Ef,cond_true,au h,XY _ M,aa7,J,aw (show k+1<=4611686018427387904 by omega)]
      simp (disch:=omega) only[K0];unfold mf;rw[au4];rfl
    · simp (disch:=omega) only[K0,Ef,XY _ M];by_cases N:4<(aB 44 ((aB 124 s)[k])).length
      · simp (disch:=omega) only[K0]
      · have hc: ¬(aB 44 ((aB 124 s)[k])).all fb=true:=λg=>by
          unfold mX at hp;simp (disch:=omega) only[K0,g] at hp;cases hp
        rw[if_neg hc] at J;simp (disch:=omega) only[K0,J]
    · simp[Ef,cond_false]
   simp (disch:=omega) only[O];unfold dU;rw[au4];cases(aB 124 s).all mX<;>rfl
abbrev aQ:=Int×List (List UInt8)×List Int
def ct (L:aQ):Prop:=L.2.1.length=L.2.2.length/\L.2.1.length<=20/\ ∀w∈L.2.1,1<=w.length/\w.length<=80
def dt (e l c:Int):Value:=.iface 295 (.agg #[.int .i64 e,.int .i64 l,.int .i64 c])
def a0l (v:Value):Prop:= ∃e l c,v=dt e l c/\ ¬e=0
theorem gb (L:aQ) (k:Nat):jD (L,(k:Int))=some (decide (k<L.2.1.length),(L,(k:Int))):=by simp[jD]
theorem qz (L:aQ) (D:ct L) (k:Nat) (h:k<L.2.1.length):fh (L,(k:Int))=some (.inl (L.2.1[k],(L,((k+1:Nat):Int)),())):=by have F:=D.2.1;unfold fh;simp (disch:=omega) only[gb];simp (disch:=omega) only[K0,show((k+1:Nat):Int) - 1=k by omega]
theorem abP (L:aQ) (k:Nat) (h: ¬k<L.2.1.length):fh (L,(k:Int))=some (.inr (dt 1 L.1 0,())):=by unfold fh;simp (disch:=omega) only[K0,gb];rfl
theorem arX (w:List UInt8) (L:aQ) (D:ct L) (k:Nat) (h:k<L.2.1.length) (hw:L.2.1[k]=w):yM w (L,(k:Int))=some (true,(L,((k+1:Nat):Int))):=by have F:=D.2.1;unfold yM;simp (disch:=omega) only[K0,gb]
theorem asw (w:List UInt8) (L:aQ) (F:ct L) (k:Nat) (h: ∀h:k<L.2.1.length,¬L.2.1[k]=w):yM w (L,(k:Int))=some (false,(L,(k:Int))):=by
 unfold yM;by_cases D:k<L.2.1.length
 · simp[gb,au D,dN (h D)]
 · grind[gb]
abbrev gK:=aQ×Int×Int×Int×Int
theorem bw (o:gK):dF o=some (decide (o.2.2.1=0),o):=rfl
theorem qw (L:aQ) (D:ct L) (k:Nat) (f:Int×Int) (h:k<L.2.1.length):jg (L,(k:Int),0,f)=some (L.2.1[k],(L,((k+1:Nat):Int),0,f)):=by have F:=D.2.1;unfold jg;simp[bw];simp (disch:=omega) only[K0]
theorem aaV (L:aQ) (k:Nat) (f:Int×Int) (h: ¬k<L.2.1.length):jg (L,(k:Int),0,f)=some ([],(L,(k:Int),1,L.1,0)):=by unfold jg;simp only[bw,aa7,decide_true,ae8,cond_false,dY (show(L.2.1.length:Int)<=k by omega),cond_true]
theorem Zs (o:gK) (h: ¬o.2.2.1=0):jg o=some ([],o):=by grind[jg,bw]
theorem Fs (n m:Int) (o:gK) (h: ¬o.2.2.1=0):fA n m o=some o:=by grind[fA,bw]
theorem qx (o:gK) (h: ¬o.2.2.1=0):j6 o=some (false,o):=by grind[j6,bw]
theorem qm (L:aQ) (k:Nat) (f:Int×Int):j6 (L,(k:Int),0,f)=some (decide (k<L.2.1.length),(L,(k:Int),0,f)):=by simp[j6,bw]
theorem iS (kind:Int) (o:gK) (h: ¬o.2.2.1=0):eW kind o=some ([],o):=by unfold eW;simp (disch:=omega) only[K0,Zs o h,bw]
theorem amx (kind:Int) (L:aQ) (k:Nat) (f:Int×Int) (h: ¬k<L.2.1.length):eW kind (L,(k:Int),0,f)=some ([],(L,(k:Int),1,L.1,0)):=by unfold eW;simp (disch:=omega) only[K0,aaV L k f h,bw]
theorem aoj (kind:Int) (L:aQ) (D:ct L) (k:Nat) (f:Int×Int) (h:k<L.2.1.length) (F:ji (L.2.1[k]) kind=some true):eW kind (L,(k:Int),0,f)=some (L.2.1[k],(L,((k+1:Nat):Int),0,f)):=by unfold eW;simp[qw L D k f h,bw,F]
def Tt (w:List UInt8):Prop:=1<=w.length/\w.length<=80
theorem alx (t:List UInt8) (n:Nat): ∀(k:Nat) (ws:List (List UInt8)) (cs:List Nat),t.length - k<=n->(∀w∈ws,Tt w)-> ∀J L,scan t k ws cs=.ok J L-> ∀w∈J,Tt w:=by
 induction n with
 |zero=>
  intro k ws cs M hw J L h;rw[v8 _ _ _ _ (by omega)] at h
  grind
 |succ n N=>
  intro k ws cs M hw J L h;by_cases D:k<t.length
  · cases F:bA (dE t k) with
    |true=>rw[Ex _ _ _ _ D F] at h;grind
    |false=>
     by_cases h1:ws.length=20\/80<ak bA t k - k
     · rw[vW _ _ _ _ D F h1] at h;grind
     · by_cases h2:ak iO (t.take (ak bA t k)) k<ak bA t k
       · rw[Fy _ _ _ _ D F h1 h2] at h;grind
       · rw[E1 _ _ _ _ D F h1 h2] at h;have g1:=Aa _ _ D F;have g2:=rV bA t k (Nat.le_of_lt D);refine N _ _ _ (by omega) (λw O=>?_) _ _ h
         grind[Tt,List.length_take]
  · grind
theorem akd (F:Nat) (n:Nat): ∀(rest:List UInt8) (no:Nat) (out ls:List po),rest.length<=n->out.length<no->no<=F+1->(∀d∈out,ct (ur d)/\1<=d.ws.length)->gI F rest no out=.ok ls->(∀d∈ls,ct (ur d)/\1<=d.ws.length)/\ls.length<=F:=by
 induction n with
 |zero=>grind[E2,ae7,au6,LG]
 |succ n L=>
  intro rest no out ls Y ho Z J h;by_cases e:rest=[]
  · grind
  · by_cases hm:F<no
    · rw[KZ _ _ _ _ e hm] at h;cases h
    · cases hs:nW (rest.take (ak dw rest 0)) with
      |bad c U=>rw[Li _ _ _ _ e hm hs] at h;cases h
      |ok ws cs=>
       rw[LQ _ _ _ _ e hm hs] at h;have h0:=at0.2 e;obtain⟨M,N⟩:=amU hs;have O:=alx _ _ _ _ _ (ab8 _) (λw hw=>by cases hw) _ _ hs
       refine L _ _ _ _ (by grind) ?_ (by omega) (λd D=>?_) h
       · split
         · omega
         · rw[ae7,au6];omega
       · split at D
         · simp_all
         · rename_i hw;rcases ae5.1 D with D |D
           · exact J d D
           · rw[ah3.1 D];exact⟨⟨by show ws.length=(ig cs).length;rw[LG];exact M,N,O⟩,by show 1<=ws.length;omega⟩
theorem Qn (s:List UInt8):(∀L∈(iI s).1,ct L/\1<=L.2.1.length)/\(iI s).1.length<=800:=by
 unfold iI;split
 · grind
 · cases h:gI 800 s 1 [] with
   |bad c l J=>exact⟨(λL D=>by cases D),ae3 _⟩
   |ok ls=>
    obtain⟨h1,h2⟩:=akd 800 s.length s 1 [] ls (ab8 _) (by simp) (by simp) (λd F=>by cases F) h
    refine⟨λL D=>?_,by show(ls.map ur).length<=800;rw[ae2];exact h2⟩
    obtain⟨d,F,rfl⟩:=ar1.1 D;exact h1 d F
theorem WC (c:UInt8):KJ (c.toNat:Int)=some (gq c):=by
 have key: ∀b:Bool,(b=true<->((48<=c.toNat/\c.toNat<=57)\/(97<=c.toNat/\c.toNat<=122)\/c.toNat=45))->some b=some (gq c):=λb D=>by
  cases hp:gq c with
  |true=>rw[D.2 (LX hp)]
  |false=>
   cases b with
   |false=>rfl
   |true=>exact absurd (D.1 rfl) (Mi hp)
 grind[KJ]
def Nk (c:UInt8):Bool:=decide (97<=c.toNat)&&decide (c.toNat<=122)
def M3 (s:List UInt8):Bool:=match s with|[]=>true |c::_=>Nk c
def kn (s:List UInt8):Bool:=decide (s.length<=20)&&M3 s&&s.all gq
theorem aan {s:List UInt8} (h:0<s.length):M3 s=Nk s[0]:=by cases s with|nil=>cases h |cons a t=>rfl
theorem ah8 (s:List UInt8) (hs:s.length<=20000):ab za (s,(s.length:Int),0,())=some (if s.all gq=true then .inl () else .inr ()):=by
 refine kg s gq (λk=>(s,(s.length:Int),(k:Int),())) _ _ (λk h hp=>?_) (λk h hp=>?_) ?_
 · simp (disch:=omega) only[K0,za,WC,hp]
 · simp (disch:=omega) only[K0,za,WC,hp]
 · simp[za]
theorem ahL (s:List UInt8) (hs:s.length<=20000):ab yV (s,0,())=some (if s.all gq=true then .inl () else .inr ()):=by
 refine kg s gq (λk=>(s,(k:Int),())) _ _ (λk h hp=>?_) (λk h hp=>?_) ?_
 · have hp:=LX hp;simp (disch:=omega) only[K0,yV];grind
 · have hp:=Mi hp;simp (disch:=omega) only[K0,yV];grind
 · simp[yV]
theorem Qb (s:List UInt8) (hs:s.length<=20000):EM s=some (kn s):=by
 have fin:(match(if s.all gq=true then(Sum.inl ()) else .inr ()) with|.inl _=>some true |.inr _=>some false)=some (s.all gq):=by grind
 unfold EM kn;by_cases F:20<s.length
 · grind
 · simp (disch:=omega) only[K0];simp (disch:=omega) only[ah8 s hs];by_cases h0:s=[]
   · subst h0;rfl
   · have D:=at0.2 h0;rw[aan D];simp (disch:=omega) only[K0];unfold Nk;by_cases c1:((s[0]).toNat)<97
     · grind
     · grind
theorem J0 (s:List UInt8) (hs:s.length<=20000):zj s=some (kn s):=by
 unfold zj kn;by_cases F:20<s.length
 · grind
 · simp (disch:=omega) only[K0];simp (disch:=omega) only[ahL s hs];by_cases h0:s=[]
   · subst h0;rfl
   · have D:=at0.2 h0;rw[aan D];simp (disch:=omega) only[K0];unfold Nk;by_cases c1:((s[0]).toNat)<97
     · grind
     · grind
def T7 (s:List UInt8):Bool:= !decide (s.getLast?=some 45)
def dL (s:List UInt8):Bool:= !decide (s=[])&&kn s&&T7 s
theorem Ax {s:List UInt8} (h:0<s.length) {R:Type} (f:UInt8->Option R):(ag s ((s.length:Int) - 1)).bind f=f (s[s.length - 1])/\s.getLast?=some (s[s.length - 1]):=by
 refine⟨?_,?_⟩
 · rw[show(s.length) - 1=((s.length - 1:Nat):Int) by omega];exact au (by omega) f
 · grind
theorem ac5 {c:UInt8}:(c.toNat:Int)=45<->c=45:=⟨λe=>by apply UInt8.toNat_inj.1;show c.toNat=45;omega,λe=>by rw[e];rfl⟩
theorem yW (s:List UInt8) (hs:s.length<=20000):ql s=some (dL s):=by
 unfold ql dL T7;by_cases h0:s=[]
 · grind
 · have D:=at0.2 h0;rw[dN h0];simp[Qb s hs];cases kn s with
   |false=>rfl
   |true=>
    simp[at4];rw[ai (bd (by omega)),(Ax D _).1,(Ax D (λ_=>some ())).2]
    by_cases e:s[s.length - 1]=45
    · simp_all
    · rw[dN (λg=>e (ac5.1 g)),dN (λg=>e (Option.some.inj g))]
theorem DZ (s:List UInt8) (hs:s.length<=20000):vY s=some (dL s):=by
 unfold vY dL T7;by_cases h0:s=[]
 · grind
 · have D:=at0.2 h0;rw[dN h0,dY (show(0:Int)<s.length by omega)]
   simp[J0 s hs];cases kn s with
   |false=>rfl
   |true=>
    simp[at4];rw[ai (bd (by omega)),(Ax D _).1,(Ax D (λ_=>some ())).2]
    by_cases e:s[s.length - 1]=45
    · simp_all
    · rw[dN (λg=>e (ac5.1 g)),dN (λg=>e (Option.some.inj g))]
def dR (c:Nat):Bool:=c==47
theorem asg:gA 47=dR:=rfl
theorem aso (l:List UInt8) (h:l.length<=20000):kV l TW=some (l.take (ak dR l 0),l.drop (ak dR l 0+1),decide (ak dR l 0<l.length)):=by unfold kV TW;simp only[];rw[if_pos (by omega)];unfold mW;rw[asg]
def jI (s:List UInt8):Option (List UInt8×List UInt8):=match s with
 |[]=>none
 |c::t=>if c=64/\ak dR t 0<t.length then some (t.take (ak dR t 0),t.drop (ak dR t 0+1)) else none
theorem WR (s:List UInt8) (hs:s.length<=20000):EN s=some ((jI s).getD ([],s)):=by
 unfold EN;simp[Qr s _ hs];cases s with
 |nil=>rfl
 |cons c t=>
  have D:t.length<=20000:=by grind
  by_cases h:c=64
  · subst h;have:iM (64::t) AW=true:=by unfold iM AW;rfl
    simp[this];rw[show(64::t).drop AW.length=t from rfl,aso t D]
    by_cases hm:ak dR t 0<t.length
    · have e:jI (64::t)=some (t.take (ak dR t 0),t.drop (ak dR t 0+1)):=if_pos ⟨rfl,hm⟩;grind
    · have e:jI (64::t)=none:=if_neg (λg=>hm g.2);grind
  · have:iM (c::t) AW=false:=by
      grind[iM,AW]
    have e:jI (c::t)=none:=if_neg (λg=>h g.1);grind
def gm (s:List UInt8):Bool:=match jI s with
 |some p=>dL p.2&&dL p.1
 |none=>dL s
theorem EZ {s:List UInt8} {p:List UInt8×List UInt8} (h:jI s=some p):p.1.length+p.2.length+2=s.length/\ ∃t,s=64::t/\ak dR t 0<t.length/\p=(t.take (ak dR t 0),t.drop (ak dR t 0+1)):=by
 cases s with
 |nil=>cases h
 |cons c t=>grind[jI]
theorem DO (s:List UInt8) (hs:s.length<=20000):tB s=some (gm s):=by
 unfold tB gm;rw[WR s hs];cases h:jI s with
 |none=>
  simp[yW s hs];cases dL s with
  |false=>rfl
  |true=>rfl
 |some p=>
  obtain⟨J,_⟩:=EZ h;have D:p.1.length<=20000:=by omega
  have F:p.2.length<=20000:=by omega
  simp[yW _ D,yW _ F];cases dL p.2 with
  |false=>rfl
  |true=>grind
theorem P9 (s:List UInt8) (hs:s.length<=20000):zx s=some (ak dR s 0:Int):=by
 have D:ak dR s 0<=s.length:=rV _ _ _ (ae3 _)
 have h:ab DY (s,0,())=some (if ak dR s 0<s.length then Sum.inr ((ak dR s 0:Int),()) else Sum.inl (s,())):=by
  refine rN (λk=>(s,(k:Int),())) (λk=>if k<s.length then Sum.inr ((k:Int),()) else Sum.inl (s,())) dR s (λk hk hp=>?_) (λk hk hp=>?_) 0 (ae3 _)
  · have F: ¬(((s[k]).toNat)=47):=by
      rw[fC hk];unfold dR at hp;grind
    simp (disch:=omega) only[K0,DY]
  · by_cases D:k<s.length
    · have F:((s[k]).toNat)=47:=by
        have:=hp D;rw[fC D];unfold dR at this;have:dE s k=47:=by grind
        omega
      simp (disch:=omega) only[K0,DY]
    · grind[DY]
 unfold zx;rw[h];by_cases hm:ak dR s 0<s.length
 · grind
 · grind
theorem Qx (t:List UInt8):ak dR (64::t) 0=ak dR t 0+1:=rfl
theorem WM (s:List UInt8) (hs:s.length<=20000):EG s=some (match jI s with|some p=>dL p.1 |none=>false):=by
 unfold EG;rw[P9 s hs,aa7];cases s with
 |nil=>rfl
 |cons c t=>
  by_cases hc:c=64
  · subst hc;rw[Qx];by_cases hm:ak dR t 0<t.length
    · have e:jI (64::t)=some (t.take (ak dR t 0),t.drop (ak dR t 0+1)):=if_pos ⟨rfl,hm⟩;rw[e];simp (disch:=omega) only[K0];rw[DZ _ (by grind)]
      rfl
    · have e:jI (64::t)=none:=if_neg (λg=>hm g.2);grind
  · have e:jI (c::t)=none:=if_neg (λg=>hc g.1);have D: ¬c.toNat=64:=λg=>hc (by apply UInt8.toNat_inj.1;show c.toNat=64;omega)
    rw[e];by_cases hm:ak dR (c::t) 0<(c::t).length
    · rw[dY (show((ak dR (c::t) 0):Int)<((c::t).length) by omega)]
      simp (disch:=omega) only[K0,List.getElem_cons_zero]
    · grind
theorem aoO (t:List UInt8):dL (64::t)=false:=by
 unfold dL kn;rw[show M3 (64::t)=false from rfl]
 grind
theorem Kk (s:List UInt8) (hs:s.length<=20000):vZ s=some (gm s):=by
 unfold vZ gm;rw[WM s hs];cases h:jI s with
 |none=>simp (disch:=omega) only[K0,DZ s hs]
 |some p=>
  obtain⟨D,t,rfl,hm,rfl⟩:=EZ h;simp only[];cases hp:dL (t.take (ak dR t 0)) with
  |false=>simp (disch:=omega) only[K0,DZ _ hs,aoO]
  |true=>
   simp only[P9 _ hs,aa7,Qx,aH,av6];simp[af2] at hs;rw[aw (by omega),ai (show(0:Int)<=((ak dR t 0+1+1:Nat):Int)/\((ak dR t 0+1+1:Nat):Int)<=((64::t).length)/\((64::t).length)<=((64::t).length:Int) by simp[af2];omega)]
   rw[ae9,ae9,as1,DZ _ (by grind)]
   rfl
def kq (s:List UInt8):Bool:=decide (s.getLast?=some 42)
theorem KW {s:List UInt8} (h:kq s=true):s=s.dropLast++[42]:=by
 have h:=of_decide_eq_true h;cases hs:s with
 |nil=>grind
 |cons a t=>
  have D:s≠[]:=by grind
  have e:=List.dropLast_concat_getLast D;grind
def lW (s:List UInt8):Bool:=if kq s=true then(match jI s.dropLast with|some p=>kn p.2&&dL p.1 |none=>kn s.dropLast) else gm s
theorem aiH (s:List UInt8) (hs:s.length<=20000):IG s kr=some (kq s):=by
 unfold IG kq;cases s with
 |nil=>rfl
 |cons a t=>
  rw[dY (show(kr.length:Int)<=((a::t).length) by show(1:Int)<=_;simp[af2];omega)]
  simp only[cond_true];have D:((a::t).length) - kr.length=(t.length:Int):=by show((a::t).length:Int) - 1=_;grind
  rw[D,aw (by omega),ai (show(0:Int)<=t.length/\t.length<=((a::t).length:Int)/\((a::t).length)<=((a::t).length:Int) by simp[af2];omega),ae9,ae9,as1]
  have L:t.length<(a::t).length:=by simp
  have F:(a::t).drop t.length=[(a::t)[t.length]]:=by rw[ak7 L,au2 (by simp)]
  have J:(a::t).getLast?=some ((a::t)[t.length]):=by grind
  rw[F,J];by_cases h:(a::t)[t.length]=42
  · rw[dY (show[(a::t)[t.length]]=kr by rw[h];rfl),dY (by rw[h])]
  · rw[dN (show¬[(a::t)[t.length]]=kr from λg=>h (by injection g)),dN (λg=>h (Option.some.inj g))]
theorem P5 (s:List UInt8) (hs:s.length<=20000):yB s kr=some (if kq s=true then(s.dropLast,true) else(s,false)):=by
 unfold yB Pr;rw[aiH s hs];cases h:kq s with
 |false=>rfl
 |true=>
  have e:=KW h;have F:s.length=s.dropLast.length+1:=by grind
  have D:s.length - kr.length=((s.length - 1:Nat):Int):=by show(s.length:Int) - 1=_;omega
  simp (disch:=omega) only[K0,D];grind
theorem Ql (s:List UInt8) (hs:s.length<=20000):zZ s=some (lW s):=by
 unfold zZ lW;rw[P5 s hs];cases h:kq s with
 |false=>simp[cond_true,DO s hs]
 |true=>
  have D:s.dropLast.length<=20000:=by grind
  simp[WR _ D];cases h2:jI s.dropLast with
  |none=>simp (disch:=omega) only[Option.getD_none,Qb _ D];grind
  |some p=>
   obtain⟨L,_⟩:=EZ h2;have F:p.1.length<=20000:=by omega
   have J:p.2.length<=20000:=by omega
   simp[Qb _ J,yW _ F];cases kn p.2 with
   |false=>rfl
   |true=>grind
theorem apo (t:List UInt8):kn (64::t)=false:=by
 unfold kn;rw[show M3 (64::t)=false from rfl]
 grind
theorem asJ {c:UInt8}:(c.toNat:Int)=42<->c=42:=⟨λe=>by apply UInt8.toNat_inj.1;show c.toNat=42;omega,λe=>by rw[e];rfl⟩
theorem QB (s:List UInt8) (hs:s.length<=20000):Ac s=some (kq s):=by
 unfold Ac kq;by_cases h0:s=[]
 · grind
 · have D:=at0.2 h0;rw[dY (show(0:Int)<s.length by omega)]
   simp[cond_true];rw[ai (bd (by omega)),(Ax D _).1,(Ax D (λ_=>some ())).2]
   by_cases e:s[s.length - 1]=42
   · simp_all
   · rw[dN (λg=>e (asJ.1 g)),dN (λg=>e (Option.some.inj g))]
theorem QD (s:List UInt8) (hs:s.length<=20000):Ad s=some (lW s):=by
 unfold Ad lW;rw[QB s hs];cases h:kq s with
 |false=>simp[af7,cond_true,Kk s hs]
 |true=>
  have e:=KW h;have L:s.length=s.dropLast.length+1:=by grind
  have D:s.dropLast.length<=20000:=by omega
  have F:s.length - 1=((s.length - 1:Nat):Int):=by omega
  simp only[if_true,F];rw[aw (by omega),ai (show(0:Int)<=0/\0<=((s.length - 1:Nat):Int)/\((s.length - 1:Nat):Int)<=s.length by omega),ae9]
  rw[show(s.take (s.length - 1)).drop (0:Int).toNat=s.dropLast by rw[List.dropLast_eq_take];rfl]
  rw[WM _ D];cases h2:jI s.dropLast with
  |none=>simp (disch:=omega) only[K0,J0 _ D]
  |some p=>
   obtain⟨M,t,J,hm,rfl⟩:=EZ h2;simp only[];rw[J] at D⊢;cases hp:dL (t.take (ak dR t 0)) with
   |false=>simp (disch:=omega) only[K0,J0 _ D,apo]
   |true=>
    simp only[P9 _ D,aa7,Qx,aH,av6];simp[af2] at D;rw[aw (by omega),ai (show(0:Int)<=((ak dR t 0+1+1:Nat):Int)/\((ak dR t 0+1+1:Nat):Int)<=((64::t).length)/\((64::t).length)<=((64::t).length:Int) by simp[af2];omega)]
    rw[ae9,ae9,as1,J0 _ (by grind)]
    rfl
def eL (c:UInt8):Bool:=decide (gM c.toNat<16)
theorem WS (c:UInt8):K7 (c.toNat:Int)=some ((gM c.toNat:Nat):Int):=by
 unfold K7 gM;by_cases c1:48<=c.toNat
 · rw[dY (show(48:Int)<=(c.toNat:Int) by omega)]
   by_cases c2:c.toNat<=57
   · rw[dY (show(c.toNat:Int)<=57 by omega),if_pos ⟨c1,c2⟩]
     simp only[cond_true];rw[ai (by rw[wK];omega),show(c.toNat:Int) - 48=((c.toNat - 48:Nat):Int) by omega]
   · rw[dN (show¬(c.toNat:Int)<=57 by omega),if_neg (λg=>c2 g.2)]
     by_cases D:97<=c.toNat
     · rw[dY (show(97:Int)<=(c.toNat:Int) by omega)]
       by_cases F:c.toNat<=102
       · rw[dY (show(c.toNat:Int)<=102 by omega),if_pos ⟨D,F⟩]
         simp only[cond_true,cond_false];rw[ai (by rw[wK];omega),ai (by rw[wK];omega),show(c.toNat:Int) - 97+10=((c.toNat - 87:Nat):Int) by omega]
       · rw[dN (show¬(c.toNat:Int)<=102 by omega),if_neg (λg=>F g.2)];rfl
     · rw[dN (show¬(97:Int)<=(c.toNat:Int) by omega),if_neg (λg=>D g.1)];rfl
 · rw[dN (show¬(48:Int)<=(c.toNat:Int) by omega),dN (show¬(97:Int)<=(c.toNat:Int) by omega),if_neg (λg=>c1 g.1),if_neg (λg=>by omega)];rfl
def de (n:Nat) (c:UInt8):Nat:=n*16+gM c.toNat
theorem Tj (l:List UInt8):dn l=l.foldl de 0:=rfl
theorem aad {V R:Type} {f:V->Option (V⊕R)} (s:List UInt8) (st:Nat->Nat->V) (a:Nat->R) (b:R)
  (h1: ∀k (h:k<s.length) (n:Nat),n<16 ^k->eL s[k]=true->f (st k n)=some (.inl (st (k+1) (de n s[k]))))
  (h2: ∀k (h:k<s.length) (n:Nat),n<16 ^k->eL s[k]=false->f (st k n)=some (.inr b))
  (J: ∀n,f (st s.length n)=some (.inr (a n))):ab f (st 0 0)=some (if s.all eL=true then a (dn s) else b):=by
 have: ∀m k n,s.length - k=m->k<=s.length->n<16 ^k->ab f (st k n)=some (if(s.drop k).all eL=true then a ((s.drop k).foldl de n) else b):=by
  intro m
  induction m with
  |zero=>
   intro k n L hk F;have e:k=s.length:=by omega
   subst e;rw[bJ,J,au0];rfl
  |succ m M=>
   intro k n L hk F;have D:k<s.length:=by omega
   rw[bJ,ak7 D,at1,List.foldl_cons];cases hp:eL s[k] with
   |true=>rw[h1 k D n F hp,at4];show ab f (st (k+1) (de n s[k]))=_;have:=of_decide_eq_true hp;exact M (k+1) _ (by omega) (by omega) (by unfold de;rw[Nat.pow_succ];omega)
   |false=>rw[h2 k D n F hp];rfl
 exact this _ 0 0 rfl (ae3 _) (by decide)
theorem ab2 {k n:Nat} (h:n<16 ^k) (hk:k<=15):n<1152921504606846976:=au5 h (Nat.pow_le_pow_right (by simp) hk)
theorem ars (v d:Nat) (L:v<1152921504606846976) (J:d<16):bits .or .u64 ((v:Int)*16) (d:Int)=((v*16+d:Nat):Int):=by
 rw[u64_or _ _ (by omega) (by omega) (by omega) (by omega)]
 have D:((v:Int)*16).toNat=v*16:=by omega
 rw[D,ae9];have F:v*16=v<<<4:=by rw[Nat.shiftLeft_eq]
 rw[F,Nat.shiftLeft_add_eq_or_of_lt (by omega)]
theorem SN {n:Nat} (h:n<18446744073709551616):IntKind.wrap .u64 (n:Int)=(n:Int):=wrap_u64 (by omega)
theorem agX (s:List UInt8):Ds s=some (if s.length=16/\s.all eL=true then((dn s:Int),true) else(0,false)):=by
 unfold Ds;by_cases F:s.length=16
 · rw[dY (show(s.length:Int)=16 by omega)]
   have h:ab C8 (s,0,(s.length:Int),0,())=some (if s.all eL=true then Sum.inl ((dn s:Int),()) else Sum.inr (0,())):=by
    refine aad s (λk n=>(s,(n:Int),(s.length:Int),(k:Int),())) (λn=>Sum.inl ((n:Int),())) _ (λk h n D hp=>?_) (λk h n D hp=>?_) (λn=>?_)
    · have J:=of_decide_eq_true hp;have D:=ab2 D (by omega)
      simp only[C8,dY (show(k:Int)<(s.length:Int) by omega),cond_true,au h,WS,aa7,dN (show¬(15:Int)<((gM (s[k]).toNat:Nat):Int) by omega),cond_false]
      rw[ai (by decide),ai (bd (by omega))]
      rw[show((n:Int)*2 ^(min (4:Int).toNat (IntKind.bits .u64)))=(n:Int)*16 from rfl]
      rw[wrap_u64 (show 0<=(n:Int)*16/\(n:Int)*16<=18446744073709551615 by omega),SN (show gM (s[k]).toNat<18446744073709551616 by omega),ars n _ D J]
      rfl
    · have J: ¬gM (s[k]).toNat<16:=λg=>by unfold eL at hp;rw[dY g] at hp;cases hp
      simp only[C8,dY (show(k:Int)<(s.length:Int) by omega),cond_true,au h,WS,aa7,dY (show(15:Int)<((gM (s[k]).toNat:Nat):Int) by omega)]
    · simp only[C8,dN (show¬(s.length:Int)<(s.length:Int) by omega),cond_false]
   simp only[ae8,cond_false,h,aa7];cases s.all eL with
   |true=>rw[if_pos rfl,if_pos ⟨F,rfl⟩]
   |false=>rw[if_neg Bool.false_ne_true,if_neg (λg=>Bool.false_ne_true g.2)]
 · rw[dN (show¬(s.length:Int)=16 by omega),if_neg (λg=>F g.1)];rfl
theorem SP (n:Int):IntKind.wrap .u64 n=n %18446744073709551616:=by simp [IntKind.wrap,IntKind.signed,IntKind.bits]
theorem KG (s:List UInt8):nT s=some (if s.length=16/\s.all eL=true then((dn s:Int),true) else(0,false)):=by
 unfold nT;by_cases M:s.length=16
 · simp (disch:=omega) only[K0]
   have h:ab EI (s,0,0,())=some (if s.all eL=true then Sum.inl ((dn s:Int),()) else Sum.inr (0,())):=by
    refine aad s (λk n=>(s,(n:Int),(k:Int),())) (λn=>Sum.inl ((n:Int),())) _ (λk h n F hp=>?_) (λk h n F hp=>?_) (λn=>?_)
    · have L:=of_decide_eq_true hp;have F:=ab2 F (by omega)
      have J:=(s[k]).toNat_lt;simp (disch:=omega) only[K0,EI,SN (show(s[k]).toNat<18446744073709551616 by omega)]
      by_cases c1:48<=(s[k]).toNat/\(s[k]).toNat<=57
      · have e:de n s[k]=n*16+((s[k]).toNat - 48):=by unfold de gM;rw[if_pos c1]
        simp (disch:=omega) only[K0,e];simp only[SP];have D:((n*16 %18446744073709551616+((s[k]).toNat))%18446744073709551616 - 48)%18446744073709551616=((n*16+((s[k]).toNat - 48):Nat):Int):=by omega
        rw[D]
      · by_cases c2:97<=(s[k]).toNat/\(s[k]).toNat<=102
        · have e:de n s[k]=n*16+((s[k]).toNat - 87):=by unfold de gM;rw[if_neg c1,if_pos c2]
          simp (disch:=omega) only[e];simp (disch:=omega) only[K0,SP];have D:((n*16 %18446744073709551616+((s[k]).toNat))%18446744073709551616 - 87)%18446744073709551616=((n*16+((s[k]).toNat - 87):Nat):Int):=by omega
          rw[D]
        · grind[gM]
    · have L: ¬gM (s[k]).toNat<16:=λg=>by unfold eL at hp;rw[dY g] at hp;cases hp
      have J:=(s[k]).toNat_lt;simp_all[gM];simp (disch:=omega) only[K0,EI,SN (show(s[k]).toNat<18446744073709551616 by omega)]
      grind
    · grind[EI]
   grind
 · grind
theorem aiC (s:List UInt8) (hs:s.length<=20000):Eo s=some (s,dL s):=by unfold Eo;rw[yW s hs];rfl
theorem ajc (s:List UInt8) (hs:s.length<=20000):EP s=some (s,gm s):=by unfold EP;rw[DO s hs];rfl
theorem ah7 (s:List UInt8) (hs:s.length<=20000):D1 s=some (s,dL s):=by unfold D1;rw[yW s hs];rfl
theorem aiw (s:List UInt8) (hs:s.length<=20000):El s=some (s,gm s):=by unfold El;rw[DO s hs];rfl
theorem aiv (s:List UInt8) (hs:s.length<=20000):Ek s=some (s,lW s):=by unfold Ek;rw[Ql s hs];rfl
def cw (l:List (List UInt8)) (v:List UInt8):Bool:=l.any λx=>decide (x=v)
theorem abh {V R α:Type} {f:V->Option (V⊕R)} (l:List α) (p:α->Bool) (st:Nat->V) (a:Nat->R) (b:R)
  (h1: ∀k (h:k<l.length),p l[k]=false->f (st k)=some (.inl (st (k+1))))
  (h2: ∀k (h:k<l.length),p l[k]=true->f (st k)=some (.inr (a k)))
  (F:f (st l.length)=some (.inr b)):(l.any p=true-> ∃k,k<l.length/\ab f (st 0)=some (a k))/\(l.any p=false->ab f (st 0)=some b):=by
 have: ∀n k,l.length - k=n->k<=l.length->((l.drop k).any p=true-> ∃j,j<l.length/\ab f (st k)=some (a j))/\((l.drop k).any p=false->ab f (st k)=some b):=by
  intro n
  induction n with
  |zero=>
   intro k J hk;have e:k=l.length:=by omega
   subst e;rw[au0];exact⟨(λh=>by cases h),(λ_=>by rw[bJ,F])⟩
  |succ n L=>
   intro k J hk;have D:k<l.length:=by omega
   rw[ak7 D,List.any_cons];cases hp:p l[k] with
   |true=>exact⟨(λ_=>⟨k,D,by rw[bJ,h2 k D hp]⟩),(λh=>by cases h)⟩
   |false=>
    have e:ab f (st k)=ab f (st (k+1)):=by rw[bJ,h1 k D hp]
    rw[e,Bool.false_or];exact L (k+1) (by omega) (by omega)
 exact this _ 0 rfl (ae3 _)
theorem zo (l:List (List UInt8)) (v:List UInt8) (F:l.length<=1000000):p8 l v=some (cw l v):=by
 obtain⟨h1,h2⟩:=abh (f:=oP) l (λx=>decide (x=v)) (λk=>(l,v,(l.length:Int),(k:Int),())) (λk=>Sum.inr ((k:Int),())) (Sum.inl ()) (λk h hp=>by
  have hp: ¬v=l[k]:=λe=>of_decide_eq_false hp e.symm;simp only[oP,dY (show(k:Int)<(l.length:Int) by omega),cond_true,cond_false,au h,dN hp,aH,aw (show k+1<=4611686018427387904 by omega)]) (λk h hp=>by
  have hp:v=l[k]:=(of_decide_eq_true hp).symm;simp only[oP,dY (show(k:Int)<(l.length:Int) by omega),cond_true,au h,dY hp]) (by
  simp only[oP,dN (show¬(l.length:Int)<(l.length:Int) by omega),cond_false])
 unfold p8 nJ cw;cases D:l.any (λx=>decide (x=v)) with
 |true=>obtain⟨k,_,e⟩:=h1 D;have e:ab oP (l,v,(l.length:Int),0,())=some (Sum.inr ((k:Int),())):=e;simp only[e,aa7,dY (show(0:Int)<=(k:Int) by omega)]
 |false=>have e:ab oP (l,v,(l.length:Int),0,())=some (Sum.inl ()):=h2 D;simp only[e,aa7];rfl
theorem qp (l:List (List UInt8)) (v:List UInt8) (F:l.length<=1000000):mM l v=some (cw l v):=by
 obtain⟨h1,h2⟩:=abh (f:=wc) l (λx=>decide (x=v)) (λk=>(l,v,(k:Int),())) (λk=>Sum.inr ()) (Sum.inl ()) (λk h hp=>by
  have hp: ¬l[k]=v:=of_decide_eq_false hp;simp only[wc,dY (show(k:Int)<(l.length:Int) by omega),cond_true,cond_false,au h,dN hp,aH,aw (show k+1<=4611686018427387904 by omega)]) (λk h hp=>by
  have hp:l[k]=v:=of_decide_eq_true hp;simp only[wc,dY (show(k:Int)<(l.length:Int) by omega),cond_true,au h,dY hp]) (by
  simp only[wc,dN (show¬(l.length:Int)<(l.length:Int) by omega),cond_false])
 unfold mM cw;cases D:l.any (λx=>decide (x=v)) with
 |true=>obtain⟨k,_,e⟩:=h1 D;have e:ab wc (l,v,0,())=some (Sum.inr ()):=e;rw[e];rfl
 |false=>have e:ab wc (l,v,0,())=some (Sum.inl ()):=h2 D;rw[e];rfl
def ir (w:List UInt8):Bool:=decide (w.length=16)&&w.all eL
theorem aaW (w:List UInt8) (h:w.length<=20000):ji w 1=some (dL w):=by unfold ji;simp[DZ w h]
theorem abT (w:List UInt8) (h:w.length<=20000):ji w 2=some (gm w):=by unfold ji;simp[Kk w h]
theorem amy (w:List UInt8) (h:w.length<=20000):ji w 3=some (dc w):=by
 unfold ji;simp only[dN (show¬(3:Int)=1 by decide),dN (show¬(3:Int)=2 by decide),decide_true,cond_false,cond_true,y8 w h,aa7]
 cases dc w<;>rfl
theorem apZ (w:List UInt8) (h:w.length<=20000):ji w 4=some (iH w):=by
 unfold ji;simp only[dN (show¬(4:Int)=1 by decide),dN (show¬(4:Int)=2 by decide),dN (show¬(4:Int)=3 by decide),decide_true,cond_false,cond_true,Qh w h,aa7]
 cases iH w<;>rfl
theorem aco (w:List UInt8):ji w 6=some (ir w):=by
 unfold ji ir;simp only[dN (show¬(6:Int)=1 by decide),dN (show¬(6:Int)=2 by decide),dN (show¬(6:Int)=3 by decide),dN (show¬(6:Int)=4 by decide),dN (show¬(6:Int)=5 by decide),decide_true,cond_false,cond_true,KG w,aa7]
 by_cases h:w.length=16
 · rw[dY h];cases e:w.all eL with
   |true=>rw[if_pos ⟨h,rfl⟩];rfl
   |false=>rw[if_neg (λg=>Bool.false_ne_true g.2)];rfl
 · rw[dN h,if_neg (λg=>h g.1)];rfl
theorem arb (w:List UInt8) (h:w.length<=20000):ji w 7=some (lW w):=by unfold ji;simp[QD w h]
def ja:Nat->List UInt8->Option Nat
 |_,[]=>some 0
 |D,c::t=>if D<=c.toNat/\97<=c.toNat/\c.toNat<=122 then(ja (c.toNat+1) t).map (λn=>n+2 ^(c.toNat - 97)) else none
theorem art {l b:Nat} (h:l<2 ^b) (L:b<=25):bits .or .u32 (l:Int) (IntKind.wrap .u32 (1*2 ^(min b (IntKind.bits .u32))))=((l+2 ^b:Nat):Int):=by
 have hp:2 ^b<=33554432:=by have:=Nat.pow_le_pow_right (show 0<2 by decide) L;exact this
 have F:min b (IntKind.bits .u32)=b:=Nat.min_eq_left (by show b<=32;omega)
 have J:(1:Int)*2 ^b=((2 ^b:Nat):Int):=by simp
 rw[F,J,wrap_u32 (by omega),u32_or _ _ (by omega) (by omega) (by omega) (by omega),ae9,ae9]
 have D:2 ^b*1+l=2 ^b*1|||l:=Nat.two_pow_add_eq_or_of_lt h 1
 rw[Nat.mul_one] at D;rw[Nat.or_comm,<-D,Nat.add_comm]
theorem YY {D:Nat} {c:UInt8} {t:List UInt8} (h1:D<=c.toNat) (h2:97<=c.toNat) (F:c.toNat<=122):ja D (c::t)=(ja (c.toNat+1) t).map (λn=>n+2 ^(c.toNat - 97)):=by rw[ja,if_pos ⟨h1,h2,F⟩]
theorem z6 {D:Nat} {c:UInt8} {t:List UInt8} (h: ¬(D<=c.toNat/\97<=c.toNat/\c.toNat<=122)):ja D (c::t)=none:=by rw[ja,if_neg h]
theorem ah9 (s:List UInt8) (hs:s.length<=20000): ∀(n k l D:Nat),s.length - k=n->k<=s.length->(k=0->D=0)->(∀h:0<k/\k<=s.length,D=(s[k - 1]'(by omega)).toNat+1)->l<2 ^(D - 97)->
  ab zb (s,(l:Int),(s.length:Int),(k:Int),())=some ((ja D (s.drop k)).elim (Sum.inr (0,())) (λn=>Sum.inl (s,((l+n:Nat):Int),()))):=by
 intro n
 induction n with
 |zero=>
  intro k l D hn hk h0 h1 M;have e:k=s.length:=by omega
  subst e;rw[bJ,au0];simp only[zb,dN (show¬(s.length:Int)<(s.length:Int) by omega),cond_false]
  rfl
 |succ n ih=>
  intro k l D hn hk h0 h1 M;have O:k<s.length:=by omega
  rw[bJ,ak7 O];simp only[zb,dY (show(k:Int)<(s.length:Int) by omega),cond_true,au O]
  by_cases c1:((s[k]).toNat:Int)<97
  · simp only[dY c1,cond_true];rw[z6 (λg=>by omega)];rfl
  · simp only[dN c1,cond_false];by_cases c2:(122:Int)<((s[k]).toNat:Int)
    · simp only[dY c2,cond_true];rw[z6 (λg=>by omega)];rfl
    · simp only[dN c2,cond_false]
      have next:D<=(s[k]).toNat->ab zb (s,bits .or .u32 (l:Int) (IntKind.wrap .u32 (1*2 ^(min (((s[k]).toNat:Int) - 97).toNat (IntKind.bits .u32)))),(s.length:Int),((k+1:Nat):Int),())=some ((ja D (s[k]::s.drop (k+1))).elim (Sum.inr (0,())) (λn=>Sum.inl (s,((l+n:Nat):Int),()))):=λN=>by
       have U:(((s[k]).toNat:Int) - 97).toNat=(s[k]).toNat - 97:=by omega
       have Z:l<2 ^((s[k]).toNat - 97):=au5 M (Nat.pow_le_pow_right (by decide) (by omega))
       have ah:l+2 ^((s[k]).toNat - 97)<2 ^((s[k]).toNat+1 - 97):=by rw[show(s[k]).toNat+1 - 97=((s[k]).toNat - 97)+1 by omega,Nat.pow_succ];omega
       rw[U,art Z (by omega),YY N (by omega) (by omega),ih (k+1) _ ((s[k]).toNat+1) (by omega) (by omega) (λh=>by omega) (λh=>by simp only[Nat.add_sub_cancel]) ah]
       cases ja ((s[k]).toNat+1) (s.drop (k+1)) with
       |none=>rfl
       |some m=>show some (Sum.inl (s,((l+2 ^((s[k]).toNat - 97)+m:Nat):Int),()))=some (Sum.inl (s,((l+(m+2 ^((s[k]).toNat - 97)):Nat):Int),()));rw[show l+2 ^((s[k]).toNat - 97)+m=l+(m+2 ^((s[k]).toNat - 97)) by omega]
      have L: ∀{R:Type} (K:Option R),J (aa .u8 (((s[k]).toNat:Int) - 97)) (J (0<=(((s[k]).toNat:Int) - 97)) (J (aa .i64 ((k:Int)+1)) K))=K:=λK=>by rw[ai (by rw[wK];omega),ai (by omega),ai (bd (by omega))]
      by_cases h:0<k
      · have N:=h1 ⟨h,hk⟩;have Y:(k:Int) - 1=((k - 1:Nat):Int):=by omega
        have an:k - 1<s.length:=by omega
        simp only[dY (show(0:Int)<(k:Int) by omega),cond_true]
        rw[Y,aw (show k - 1<=4611686018427387904 by omega),au an]
        by_cases F:((s[k]).toNat:Int)<=((s[k - 1]).toNat:Int)
        · simp only[dY F,cond_true];rw[z6 (λg=>by omega)];rfl
        · simp only[dN F,cond_false];rw[L];exact next (by omega)
      · simp only[dN (show¬(0:Int)<(k:Int) by omega),cond_false]
        rw[L];exact next (by have:=h0 (by omega);omega)
def jm (s:List UInt8):Option Nat:=if s=[45] then some 0 else if s=[] then none else ja 0 s
theorem ai4 (s:List UInt8) (hs:s.length<=20000): ∃x,EO s=some (x,(jm s).isSome)/\ ∀n,jm s=some n->x=(n:Int):=by
 unfold EO;by_cases h:s=oa
 · have h':s=[45]:=h;rw[dY h];exact⟨0,by unfold jm;rw[if_pos h'];rfl,λn D=>by unfold jm at D;rw[if_pos h'] at D;injection D with D;subst D;rfl⟩
 · have h': ¬s=[45]:=h;have F:ab zb (s,0,(s.length:Int),0,())=some ((ja 0 s).elim (Sum.inr (0,())) (λn=>Sum.inl (s,((0+n:Nat):Int),()))):=ah9 s hs s.length 0 0 0 (by omega) (ae3 _) (λ_=>rfl) (λh=>by omega) (by decide)
   rw[dN h];simp only[cond_false,F,aa7];unfold jm;rw[if_neg h'];by_cases h0:s=[]
   · subst h0;exact⟨((0+0:Nat):Int),rfl,λn D=>by rw[if_pos rfl] at D;cases D⟩
   · rw[if_neg h0];cases ja 0 s with
     |none=>exact⟨0,rfl,λn D=>by cases D⟩
     |some m=>
      refine⟨((0+m:Nat):Int),?_,λn D=>by injection D with D;subst D;rw[Nat.zero_add]⟩
      show some (((0+m:Nat):Int),!decide (s=[]))=_;rw[dN h0];rfl
def fS:List Int->Int
 |[]=>0
 |x::t=>fS t*2+x
def AT (F:List Int):Prop:= ∀x∈F,x=0\/x=1
theorem S7: ∀(F:List Int),AT F->0<=fS F/\fS F<2 ^F.length
 |[],_=>⟨Int.le_refl _,by decide⟩
 |x::t,h=>by obtain⟨h1,h2⟩:=S7 t (λy D=>h y (List.mem_cons_of_mem _ D));have J:=h x List.mem_cons_self;rw[af2];show 0<=fS t*2+x/\fS t*2+x<_;omega
theorem WL (F:List Int) (J:AT F) (Y:F.length<=26):EE F=some (fS F):=by
 have h: ∀k,k<=F.length->ab DX (F,fS (F.drop k),k - 1,())=some (fS F,()):=by
  intro k
  induction k with
  |zero=>simp[bJ,DX]
  |succ k Z=>
   intro hk;have D:k<F.length:=by omega
   obtain⟨M,N⟩:=S7 (F.drop (k+1)) (λx L=>J x (List.mem_of_mem_drop L))
   have O:(2:Int) ^(F.drop (k+1)).length<=67108864:=by
    have:2 ^(F.drop (k+1)).length<=2 ^26:=Nat.pow_le_pow_right (by simp) (by grind)
    grind
   have L:=J _ (ab7 D);have U:fS (F.drop k)=fS (F.drop (k+1))*2+F[k]:=by rw[ak7 D];rfl
   rw[bJ];simp[DX,au D];rw[wrap_u32 (by omega),ai (by rw[Th];omega),ai (by rw[Th];omega),ai (bd (by omega))]
   grind
 have:=h F.length (ab8 _);rw[au0] at this;have this:ab DX (F,0,F.length - 1,())=some (fS F,()):=this;unfold EE;rw[ai (bd (by omega)),this];rfl
theorem ZZ: ∀(F:List Int) (j:Nat) (h:j<F.length),F[j]=0->fS (F.set j 1)=fS F+2 ^j
 |x::t,0,_,e=>by have e:=e;subst e;show fS t*2+1=fS t*2+0+2 ^0;omega
 |x::t,j+1,h,e=>by
  have:=ZZ t j (by grind) (by grind)
  show fS (t.set j 1)*2+x=fS t*2+x+2 ^(j+1);omega
def clear (F:List Int) (D:Nat):Prop:=F.length=26/\AT F/\ ∀j (h:j<F.length),D<=j+97->F[j]=0
theorem ah5 (s:List UInt8) (hs:s.length<=20000): ∀(n k L:Nat) (F:List Int),s.length - k=n->k<=s.length->(k=0->L=0)->(∀h:0<k/\k<=s.length,L=(s[k - 1]'(by omega)).toNat+1)->clear F L->
  (ja L (s.drop k)=none->ab oU (s,(k:Int),F,())=some (Sum.inr ()))/\
  (∀m,ja L (s.drop k)=some m-> ∃D,ab oU (s,(k:Int),F,())=some (Sum.inl (s,D,()))/\D.length=26/\AT D/\fS D=fS F+(m:Int)):=by
 intro n
 induction n with
 |zero=>
  intro k L F hn hk h0 h1 M;have e:k=s.length:=by omega
  subst e;have e:ab oU (s,(s.length:Int),F,())=some (Sum.inl (s,F,())):=by rw[bJ];simp only[oU,dN (show¬(s.length:Int)<(s.length:Int) by omega),cond_false]
  rw[au0];refine⟨(λh=>by cases h),λm hm=>⟨F,e,M.1,M.2.1,?_⟩⟩
  have:(0:Nat)=m:=Option.some.inj hm;subst this;omega
 |succ n ih=>
  intro k L F hn hk h0 h1 M;have ah:k<s.length:=by omega
  rw[bJ,ak7 ah];simp only[oU,dY (show(k:Int)<(s.length:Int) by omega),cond_true,au ah]
  by_cases c1:((s[k]).toNat:Int)<97
  · simp only[dY c1,cond_true];exact⟨(λ_=>trivial),λm hm=>by rw[z6 (λg=>by omega)] at hm;cases hm⟩
  · simp only[dN c1,cond_false];by_cases c2:(122:Int)<((s[k]).toNat:Int)
    · simp only[dY c2,cond_true];exact⟨(λ_=>trivial),λm hm=>by rw[z6 (λg=>by omega)] at hm;cases hm⟩
    · simp only[dN c2,cond_false];have Y:(((s[k]).toNat:Int) - 97).toNat=(s[k]).toNat - 97:=by omega
      have O:(s[k]).toNat - 97<F.length:=by have:=M.1;omega
      have ops: ∀{R:Type} (K:Option R),J (aa .u8 (((s[k]).toNat:Int) - 97)) (J (0<=(((s[k]).toNat:Int) - 97)/\(((s[k]).toNat:Int) - 97)<(F.length:Int)) ((F[(((s[k]).toNat:Int) - 97).toNat]?).bind λq=>J (aa .i64 ((k:Int)+1)) K))=K:=λK=>by have:=M.1;rw[ai (by rw[wK];omega),ai (by omega),Y,ae6 O,aa7,ai (bd (by omega))]
      have next:L<=(s[k]).toNat->(ja L (s[k]::s.drop (k+1))=none->ab oU (s,((k+1:Nat):Int),F.set (((s[k]).toNat:Int) - 97).toNat 1,())=some (Sum.inr ()))/\(∀m,ja L (s[k]::s.drop (k+1))=some m-> ∃D,ab oU (s,((k+1:Nat):Int),F.set (((s[k]).toNat:Int) - 97).toNat 1,())=some (Sum.inl (s,D,()))/\D.length=26/\AT D/\fS D=fS F+(m:Int)):=λZ=>by
       have hz:F[(s[k]).toNat - 97]=0:=M.2.2 _ O (by omega)
       have an:clear (F.set ((s[k]).toNat - 97) 1) ((s[k]).toNat+1):=by
        refine⟨by rw[av0];exact M.1,λx N=>?_,λj h aE=>?_⟩
        · rcases List.mem_or_eq_of_mem_set N with N |N
          · exact M.2.1 x N
          · exact .inr N
        · rw[List.getElem_set,if_neg (by omega)]
          exact M.2.2 j (by rw[av0] at h;exact h) (by omega)
       rw[Y,YY Z (by omega) (by omega)]
       obtain⟨i1,i2⟩:=ih (k+1) ((s[k]).toNat+1) (F.set ((s[k]).toNat - 97) 1) (by omega) (by omega) (λh=>by omega) (λh=>by simp only[Nat.add_sub_cancel]) an
       refine⟨λh=>i1 (by cases e:ja ((s[k]).toNat+1) (s.drop (k+1)) with|none=>rfl |some q=>rw[e] at h;cases h),λm hm=>?_⟩
       cases e:ja ((s[k]).toNat+1) (s.drop (k+1)) with
       |none=>rw[e] at hm;cases hm
       |some q=>
        rw[e] at hm;have hm:q+2 ^((s[k]).toNat - 97)=m:=Option.some.inj hm;obtain⟨D,f1,f2,f3,f4⟩:=i2 q e;refine⟨D,f1,f2,f3,?_⟩;have az:(m:Int)=(q:Int)+2 ^((s[k]).toNat - 97):=by rw[<-hm];simp
        rw[f4,ZZ F _ O hz,az];omega
      by_cases h:0<k
      · have Z:=h1 ⟨h,hk⟩;have ar:(k:Int) - 1=((k - 1:Nat):Int):=by omega
        have av:k - 1<s.length:=by omega
        simp only[dY (show(0:Int)<(k:Int) by omega),cond_true]
        rw[ar,aw (show k - 1<=4611686018427387904 by omega),au av]
        by_cases U:((s[k]).toNat:Int)<=((s[k - 1]).toNat:Int)
        · simp only[dY U,cond_true];exact⟨(λ_=>trivial),λm hm=>by rw[z6 (λg=>by omega)] at hm;cases hm⟩
        · simp only[dN U,cond_false];rw[ops];exact next (by omega)
      · simp only[dN (show¬(0:Int)<(k:Int) by omega),cond_false]
        rw[ops];exact next (by have:=h0 (by omega);omega)
def L7:List Int:=List.replicate 26 0
theorem Xe:clear L7 0:=⟨rfl,λx D=>.inl (List.eq_of_mem_replicate D),λj h _=>List.eq_of_mem_replicate (ab7 h)⟩
theorem alS:fS L7=0:=rfl
theorem Ka (s:List UInt8) (hs:s.length<=20000): ∃F,zw s=some (F,(jm s).isSome)/\F.length<=26/\AT F/\ ∀n,jm s=some n->fS F=(n:Int):=by
 unfold zw;rw[ai (by simp)]
 by_cases h:s=oa
 · have h':s=[45]:=h;rw[dY h];refine⟨L7,by unfold jm;rw[if_pos h'];rfl,by decide,Xe.2.1,λn D=>?_⟩
   unfold jm at D;rw[if_pos h'] at D;cases D;rfl
 · have h': ¬s=[45]:=h;rw[dN h];obtain⟨h1,h2⟩:=ah5 s hs s.length 0 0 L7 rfl (ae3 _) (by simp) (by simp) Xe
   rw[au3] at h1 h2;unfold jm;rw[if_neg h'];by_cases h0:s=[]
   · subst h0;obtain⟨J,f1,f2,f3,f4⟩:=h2 0 rfl;refine⟨J,?_,by omega,f3,λn D=>by rw[if_pos rfl] at D;cases D⟩
     simp only[cond_false];rw[show ab oU ([],0,List.replicate (26:Int).toNat 0,())=_ from f1];rfl
   · rw[if_neg h0];cases e:ja 0 s with
     |none=>
      refine⟨[],?_,by decide,(λx L=>by cases L),λn D=>by cases D⟩
      simp only[cond_false];rw[show ab oU (s,0,List.replicate (26:Int).toNat 0,())=_ from h1 e];rfl
     |some m=>
      obtain⟨J,f1,f2,f3,f4⟩:=h2 m e;refine⟨J,?_,by omega,f3,λn D=>by cases D;rw[f4,alS];omega⟩
      simp only[cond_false];rw[show ab oU (s,0,List.replicate (26:Int).toNat 0,())=_ from f1]
      have:0<s.length:=at0.2 h0;grind
theorem aok (w:List UInt8) (h:w.length<=20000):ji w 5=some ((jm w).isSome):=by obtain⟨F,f1,_⟩:=Ka w h;unfold ji;simp[f1]
def aL (L:aQ) (k:Nat):Int:=if 0<k then(L.2.2[k - 1]?).getD 0 else 0
theorem cL (e:Int) (L:aQ) (D:ct L) (k:Nat) (hk:k<=L.2.1.length):cr e (L,(k:Int))=some (dt e L.1 (aL L k),()):=by
 unfold cr aL;have F:=D.2.1;have J:=D.1;by_cases h:0<k
 · simp (disch:=omega) only[K0];simp (disch:=omega) only[K0,show(k) - 1=((k - 1:Nat):Int) by omega,ae6 (show k - 1<L.2.2.length by omega)]
   rfl
 · simp (disch:=omega) only[K0];rfl
theorem gF (c:Int) (L:aQ) (D:ct L) (k:Nat) (hk:k<=L.2.1.length) (f:Int×Int) (hf:f=(0,0)):fi c (L,(k:Int),0,f)=some (L,(k:Int),c,L.1,aL L k):=by
 subst hf;unfold fi aL;have F:=D.2.1;have J:=D.1;simp only[decide_true];by_cases h:0<k
 · simp (disch:=omega) only[K0];simp (disch:=omega) only[K0,show(k) - 1=((k - 1:Nat):Int) by omega,ae6 (show k - 1<L.2.2.length by omega)]
   rfl
 · grind
def oj {β:Type} (T:aQ×Int->Option ((β×(aQ×Int)×Unit)⊕(Value×Unit))) (kind:Int) (ok:List UInt8->Bool) (val:List UInt8->β):Prop:=
 ∀(L:aQ) (k:Nat),ct L->k<=L.2.1.length->
  (∃h:k<L.2.1.length,ok (L.2.1[k])=true/\T (L,(k:Int))=some (.inl (val (L.2.1[k]),(L,((k+1:Nat):Int)),()))/\eW kind (L,(k:Int),0,0,0)=some (L.2.1[k],(L,((k+1:Nat):Int),0,0,0)))\/
  (∃(c l D:Int) (F:Nat) (w:List UInt8),¬c=0/\F<=L.2.1.length/\T (L,(k:Int))=some (.inr (dt c l D,()))/\eW kind (L,(k:Int),0,0,0)=some (w,(L,(F:Int),c,l,D)))
theorem qN {β:Type} {T:aQ×Int->Option ((β×(aQ×Int)×Unit)⊕(Value×Unit))} {kind:Int} {ok:List UInt8->Bool} {val:List UInt8->β} (P:List UInt8->Option (β×Bool))
  (hT: ∀o,T o=(fh o).bind (λU=>match U with
   |.inl (w,o',_)=>(P w).bind λr=>bif !r.2 then(cr 1 o').bind (λ(J,_)=>some (.inr (J,()))) else some (.inl (r.1,o',()))
   |.inr (J,_)=>some (.inr (J,()))))
  (N: ∀w,w.length<=20000-> ∃x,P w=some (x,ok w)/\(ok w=true->x=val w)) (M: ∀w,w.length<=20000->ji w kind=some (ok w)):oj T kind ok val:=by
 intro L k D hk;by_cases h:k<L.2.1.length
 · have hw:(L.2.1[k]).length<=20000:=by have:=(D.2.2 _ (ab7 h)).2;omega
   obtain⟨x,O,Y⟩:=N _ hw;cases F:ok (L.2.1[k]) with
   |true=>
    refine .inl ⟨h,F,?_,aoj kind L D k _ h (by grind)⟩
    rw[hT,qz L D k h];grind
   |false=>
    refine .inr ⟨1,L.1,aL L (k+1),k+1,L.2.1[k],by decide,h,?_,?_⟩
    · rw[hT,qz L D k h];simp (disch:=omega) only[K0,O,F,cL 1 L D (k+1) h]
    · unfold eW;simp only[qw L D k _ h,aa7,bw,decide_true,cond_true,M _ hw,F,am7,gF 1 L D (k+1) h _ rfl]
 · refine .inr ⟨1,L.1,0,k,[],by decide,hk,?_,amx kind L k _ h⟩
   rw[hT,abP L k h,aa7]
def fT (s:List UInt8):Int:=(((jm s).getD 0:Nat):Int)
def pD (s:List UInt8):Bool:=(jm s).isSome
theorem Tu:oj a1l 1 dL id:=qN Eo (λo=>rfl) (λw hw=>⟨w,aiC w hw,λ_=>rfl⟩) (λw hw=>aaW w hw)
theorem acs:oj II 2 gm id:=qN EP (λo=>rfl) (λw hw=>⟨w,ajc w hw,λ_=>rfl⟩) (λw hw=>abT w hw)
theorem SQ:oj CJ 1 dL id:=qN D1 (λo=>rfl) (λw hw=>⟨w,ah7 w hw,λ_=>rfl⟩) (λw hw=>aaW w hw)
theorem abU:oj IF 2 gm id:=qN El (λo=>rfl) (λw hw=>⟨w,aiw w hw,λ_=>rfl⟩) (λw hw=>abT w hw)
theorem arh:oj Pp 7 lW id:=qN Ek (λo=>rfl) (λw hw=>⟨w,aiv w hw,λ_=>rfl⟩) (λw hw=>arb w hw)
theorem Zx:oj IE 3 dc aR:=qN yT (λo=>rfl) (λw hw=>by
 rw[Wo w hw];unfold jO;cases h:dc w with
 |true=>grind
 |false=>exact⟨_,rfl,λh=>by cases h⟩) (λw hw=>amy w hw)
theorem arf:oj Pv 4 iH dU:=qN Ew (λo=>rfl) (λw hw=>by
 rw[aiL w hw];cases h:iH w with
 |true=>grind
 |false=>exact⟨_,rfl,λh=>by cases h⟩) (λw hw=>apZ w hw)
theorem SU:oj ye 6 ir (λw=>(dn w:Int)):=qN Ds (λo=>rfl) (λw hw=>by
 rw[agX w];unfold ir;by_cases h:w.length=16/\w.all eL=true
 · simp_all
 · rw[if_neg h];cases h1:decide (w.length=16)&&w.all eL with
   |true=>grind
   |false=>exact⟨_,rfl,λh=>by cases h⟩) (λw hw=>aco w)
theorem aaX:oj IJ 5 pD fT:=qN EO (λo=>rfl) (λw hw=>by
 obtain⟨x,h1,h2⟩:=ai4 w hw;refine⟨x,h1,λh=>?_⟩;unfold pD at h;unfold fT;cases e:jm w with
 |none=>grind
 |some n=>rw[h2 n e];rfl) (λw hw=>aok w hw)
abbrev al:=List UInt8×List UInt8×List (List UInt8)
abbrev dC:=List UInt8×List (List cO)×List (List UInt8)
def aO (n:al):dC:=(n.1,dU n.2.1,n.2.2)
def wD (F:Nat) (D:List (List UInt8)):Prop:=D.length<=F/\(∀f∈D,dL f=true)/\D.Nodup
def nY (D:Nat) (n:al):Prop:=gm n.1=true/\iH n.2.1=true/\wD D n.2.2
theorem qD (l:List (List UInt8)) (v:List UInt8):cw l v=true<->v∈l:=by simp[cw]
theorem r8 {l:List (List UInt8)} {v:List UInt8} (h:cw l v=false):v∉l:=λg=>by rw[(qD l v).2 g] at h;cases h
theorem nR {α:Type} {l:List α} {v:α} (h:l.Nodup) (D:v∉l):(l++[v]).Nodup:=by grind
theorem ajU {F:Nat} {D:List (List UInt8)} {v:List UInt8} (h:wD F D) (hm: ¬D.length=F) (hp:dL v=true) (J:v∉D):wD F (D++[v]):=by
 refine⟨by have:=h.1;simp;omega,λf hf=>?_,nR h.2.2 J⟩
 rcases ae5.1 hf with hf |hf
 · exact h.2.1 f hf
 · grind
theorem zY (J:Int) (w rt:List UInt8) (F:List (List UInt8)) (L:aQ) (k c l D:Int) (hc: ¬c=0):
  ab jE (J,[],[],w,rt,F,L.1,L.2.1,L.2.2,k,c,l,D,())=some ([],[],w,rt,F,L.1,L.2.1,L.2.2,k,c,l,D,()):=by
 rw[bJ];by_cases hm:0<J
 · simp (disch:=omega) only[K0,jE,qx ((L.1,L.2.1,L.2.2),k,c,l,D) hc]
 · grind[jE]
theorem ant (D:Nat) (h1:1<=D) (h8:D<=8) (L:aQ) (U:ct L) (w rt:List UInt8) (O:List (List cO)): ∀(n k:Nat) (seen:List (List UInt8)),L.2.1.length - k<=n->k<=L.2.1.length->wD D seen->
  (∃J,wD D J/\ab qa ((D:Int),[],w,O,seen,L.1,L.2.1,L.2.2,(k:Int),())=some (.inl ([],w,O,J,L.1,L.2.1,L.2.2,(L.2.1.length:Int),()))/\
   ab jE ((D:Int),[],[],w,rt,seen,L.1,L.2.1,L.2.2,(k:Int),0,0,0,())=some ([],[],w,rt,J,L.1,L.2.1,L.2.2,(L.2.1.length:Int),0,0,0,()))\/
  (∃(c l Z:Int) (k':Nat) (J:List (List UInt8)),¬c=0/\k'<=L.2.1.length/\ab qa ((D:Int),[],w,O,seen,L.1,L.2.1,L.2.2,(k:Int),())=some (.inr (dt c l Z,()))/\
   ab jE ((D:Int),[],[],w,rt,seen,L.1,L.2.1,L.2.2,(k:Int),0,0,0,())=some ([],[],w,rt,J,L.1,L.2.1,L.2.2,(k':Int),c,l,Z,())):=by
 have av:=U.2.1;have F:(0:Int)<(D:Int):=by omega
 have done: ∀(seen:List (List UInt8)),wD D seen->(∃J,wD D J/\ab qa ((D:Int),[],w,O,seen,L.1,L.2.1,L.2.2,(L.2.1.length:Int),())=some (.inl ([],w,O,J,L.1,L.2.1,L.2.2,(L.2.1.length:Int),()))/\
   ab jE ((D:Int),[],[],w,rt,seen,L.1,L.2.1,L.2.2,(L.2.1.length:Int),0,0,0,())=some ([],[],w,rt,J,L.1,L.2.1,L.2.2,(L.2.1.length:Int),0,0,0,())):=by
  intro seen hs;refine⟨seen,hs,?_,?_⟩
  · rw[bJ];simp only[qa,dY F,cond_true];rw[show jD ((L.1,L.2.1,L.2.2),((L.2.1.length:Nat):Int))=_ from gb L L.2.1.length,aa7,dN (show¬L.2.1.length<L.2.1.length by omega)]
    rfl
  · rw[bJ];simp only[jE,dY F,cond_true];rw[show j6 ((L.1,L.2.1,L.2.2),((L.2.1.length:Nat):Int),0,0,0)=_ from qm L L.2.1.length (0,0),aa7,dN (show¬L.2.1.length<L.2.1.length by omega)]
    rfl
 intro n
 induction n with
 |zero=>grind
 |succ n ih=>
  intro k seen hn hk hs;by_cases M:k<L.2.1.length
  · have e1:jD ((L.1,L.2.1,L.2.2),(k:Int))=some (true,(L,(k:Int))):=by
      have:=gb L k;rw[dY M] at this;exact this
    have e2:j6 ((L.1,L.2.1,L.2.2),(k:Int),0,0,0)=some (true,(L,(k:Int),0,0,0)):=by have:=qm L k (0,0);rw[dY M] at this;exact this
    rcases Tu L k U hk with⟨_,hp,Y,hd⟩ |⟨c,l,Z,k',w',hc,ar,Y,hd⟩
    · simp only[id] at Y;have hlen:seen.length<=8:=by have:=hs.1;omega
      have ah:=zo seen (L.2.1[k]) (by omega)
      have an:=qp seen (L.2.1[k]) (by omega)
      cases hi:cw seen L.2.1[k] with
      |true=>
       rw[hi] at ah an;refine .inr ⟨3,L.1,aL L (k+1),k+1,seen++[L.2.1[k]],by decide,M,?_,?_⟩
       · rw[bJ];simp only[qa,dY F,cond_true,e1,aa7,Y,ah,cL 3 L U (k+1) M]
       · have N:jE ((D:Int),[],[],w,rt,seen,L.1,L.2.1,L.2.2,(k:Int),0,0,0,())=some (.inl ((D:Int),[],[],w,rt,seen++[L.2.1[k]],L.1,L.2.1,L.2.2,((k+1:Nat):Int),3,L.1,aL L (k+1),())):=by
           simp only[jE,dY F,cond_true,e2,aa7,hd,bw,decide_true,an,gF 3 L U (k+1) M (0,0) rfl,dN (show¬(3:Int)=0 by decide),cond_false]
           rw[ai (by simp only[af2,as5];omega)]
         rw[aZ N];exact zY _ _ _ _ L _ 3 _ _ (by decide)
      |false=>
       rw[hi] at ah an;by_cases hb:seen.length=D
       · refine .inr ⟨2,L.1,aL L (k+1),k+1,seen++[L.2.1[k]],by decide,M,?_,?_⟩
         · rw[bJ];simp only[qa,dY F,cond_true,e1,aa7,Y,ah,cond_false,dY (show(seen.length:Int)=(D:Int) by omega),cL 2 L U (k+1) M]
         · have N:jE ((D:Int),[],[],w,rt,seen,L.1,L.2.1,L.2.2,(k:Int),0,0,0,())=some (.inl ((D:Int),[],[],w,rt,seen++[L.2.1[k]],L.1,L.2.1,L.2.2,((k+1:Nat):Int),2,L.1,aL L (k+1),())):=by
             simp only[jE,dY F,cond_true,e2,aa7,hd,bw,decide_true,an,cond_false,dY (show(D:Int)<=(seen.length:Int) by omega),gF 2 L U (k+1) M (0,0) rfl]
             rw[ai (by simp only[af2,as5];omega)]
           rw[aZ N];exact zY _ _ _ _ L _ 2 _ _ (by decide)
       · have N:qa ((D:Int),[],w,O,seen,L.1,L.2.1,L.2.2,(k:Int),())=some (.inl ((D:Int),[],w,O,seen++[L.2.1[k]],L.1,L.2.1,L.2.2,((k+1:Nat):Int),())):=by
            simp only[qa,dY F,cond_true,e1,aa7,Y,ah,cond_false,dN (show¬(seen.length:Int)=(D:Int) by omega)]
            rw[ai (by simp only[af2,as5];omega)]
         have e4:jE ((D:Int),[],[],w,rt,seen,L.1,L.2.1,L.2.2,(k:Int),0,0,0,())=some (.inl ((D:Int),[],[],w,rt,seen++[L.2.1[k]],L.1,L.2.1,L.2.2,((k+1:Nat):Int),0,0,0,())):=by
          have:=hs.1;simp only[jE,dY F,cond_true,e2,aa7,hd,bw,decide_true,an,cond_false,dN (show¬(D:Int)<=(seen.length:Int) by omega)]
          rw[ai (by simp only[af2,as5];omega)]
         rw[aZ N,aZ e4];exact ih (k+1) (seen++[L.2.1[k]]) (by omega) M (ajU hs hb hp (r8 hi))
    · refine .inr ⟨c,l,Z,k',seen++[w'],hc,ar,?_,?_⟩
      · rw[bJ];simp only[qa,dY F,cond_true,e1,aa7,Y]
      · have hlen:seen.length<=8:=by have:=hs.1;omega
        have N:jE ((D:Int),[],[],w,rt,seen,L.1,L.2.1,L.2.2,(k:Int),0,0,0,())=some (.inl ((D:Int),[],[],w,rt,seen++[w'],L.1,L.2.1,L.2.2,(k':Int),c,l,Z,())):=by simp only[jE,dY F,cond_true,e2,aa7,hd,bw,dN hc,cond_false];rw[ai (by simp only[af2,as5];omega)]
        rw[aZ N];exact zY _ _ _ _ L _ c _ _ hc
  · have e:k=L.2.1.length:=by omega
    subst e;exact .inl (done seen hs)
theorem wm (D:Int) (o:gK) (h: ¬o.2.2.1=0):fy D o=some (([],[],[]),o):=by unfold fy;rw[iS 2 o h];simp[iS 4 o h];rw[zY D [] [] [] o.1 o.2.1 o.2.2.1 o.2.2.2.1 o.2.2.2.2 h];rfl
theorem MW (J:Nat) (h8:J<=8) (L:aQ) (k:Nat) (U:ct L) (hk:k<=L.2.1.length):
  (∃n D,D<=L.2.1.length/\nY J n/\jF (J:Int) (L,(k:Int))=some (.inl (aO n,(L,((D:Nat):Int)),()))/\fy (J:Int) (L,(k:Int),0,0,0)=some (n,(L,((D:Nat):Int),0,0,0)))\/
  (∃(c l F:Int) (D:Nat) (n:al),¬c=0/\D<=L.2.1.length/\jF (J:Int) (L,(k:Int))=some (.inr (dt c l F,()))/\fy (J:Int) (L,(k:Int),0,0,0)=some (n,(L,(D:Int),c,l,F))):=by
 unfold jF fy;rcases acs L k U hk with⟨h1,hn,N,Y⟩ |⟨c,l,F,D,w',hc,M,N,Y⟩
 · simp only[id] at N;rcases arf L (k+1) U h1 with⟨h2,hr,Z,ah⟩ |⟨c,l,F,D,w',hc,M,Z,ah⟩
   · by_cases hm:J=0
     · subst hm;refine .inl ⟨(L.2.1[k],L.2.1[k+1],[]),k+1+1,h2,⟨hn,hr,ae3 _,(λf hf=>by cases hf),List.nodup_nil⟩,?_,?_⟩
       · rw[N];simp only[Z,aa7];rw[bJ];rfl
       · simp_all[bJ,jE]
     · rcases ant J (by omega) h8 L U (L.2.1[k]) (L.2.1[k+1]) (dU (L.2.1[k+1])) L.2.1.length (k+1+1) [] (by simp) h2 ⟨ae3 _,(λf hf=>by cases hf),List.nodup_nil⟩ with⟨O,hf,e1,e2⟩ |⟨c,l,F,D,O,hc,M,e1,e2⟩
       · refine .inl ⟨(L.2.1[k],L.2.1[k+1],O),L.2.1.length,ab8 _,⟨hn,hr,hf⟩,?_,?_⟩
         · rw[N];simp only[Z,aa7,e1];rfl
         · grind
       · refine .inr ⟨c,l,F,D,(L.2.1[k],L.2.1[k+1],O),hc,M,?_,?_⟩
         · grind
         · grind
   · refine .inr ⟨c,l,F,D,(L.2.1[k],w',[]),hc,M,?_,?_⟩
     · grind
     · rw[Y];simp only[ah,aa7];rw[zY J _ _ _ L D c l F hc];rfl
 · refine .inr ⟨c,l,F,D,(w',[],[]),hc,M,?_,?_⟩
   · grind
   · rw[Y];simp[iS 4 (L,D,c,l,F) hc];rw[zY J _ _ _ L D c l F hc];rfl
theorem YO (a:List UInt8) (c:UInt8):ck (a++[c])=ck a*10+(c.toNat - 48):=by unfold ck;rw[List.foldl_append];rfl
theorem amg {c:UInt8} (h:bQ c=true):UInt8.ofNat (48+(c.toNat - 48))=c:=by obtain⟨h1,h2⟩:=pa h;rw[show 48+(c.toNat - 48)=c.toNat by omega,UInt8.ofNat_toNat]
theorem an1: ∀(n:Nat) (a:List UInt8),a.length=n->a.all bQ=true->0<a.length->ia a=true->kD (ck a)=a:=by
 intro n
 induction n with
 |zero=>omega
 |succ n Z=>
  intro a U F h0 hh;have L:=at0.1 h0;obtain⟨b,c,rfl⟩: ∃b c,a=b++[c]:=⟨a.dropLast,a.getLast L,(List.dropLast_concat_getLast L).symm⟩;rw[List.all_append,ad0] at F;obtain⟨J,hc⟩:=F;simp[List.all_nil] at hc;obtain⟨c1,c2⟩:=pa hc;by_cases D:b=[]
  · subst D;rw[YO];rw[kD,dif_pos (show ck []*10+(c.toNat - 48)<10 by show 0*10+(c.toNat - 48)<10;omega)]
    have:ck []*10+(c.toNat - 48)=c.toNat - 48:=by show 0*10+(c.toNat - 48)=_;omega
    simp_all
  · have M:=at0.2 D;have N:b.length=n:=by rw[ae7,au6] at U;omega
    obtain⟨x,t,rfl⟩: ∃x t,b=x::t:=by cases b with|nil=>exact absurd rfl D |cons x t=>exact⟨x,t,rfl⟩
    have Y:x≠48:=by grind[ia]
    have O:ia (x::t)=true:=by unfold ia;grind
    have ah:=Nat.le_trans (Nat.one_le_pow _ _ (by simp)) (abf J Y)
    rw[YO,kD,dif_neg (by omega),show(ck (x::t)*10+(c.toNat - 48))/10=ck (x::t) by omega,show(ck (x::t)*10+(c.toNat - 48))%10=c.toNat - 48 by omega,Z (x::t) N J M O,amg hc]
theorem Xu {a:List UInt8} (h:dj a=true):1<=a.length/\a.length<=6/\ia a=true/\a.all bQ=true:=by grind[dj]
theorem zH {a:List UInt8} (h:dj a=true):kD (ck a)=a:=by obtain⟨h1,h2,D,F⟩:=Xu h;exact an1 _ a rfl F h1 D
theorem zC {a:List UInt8} (h:dj a=true):xc (ck a:Int)=true:=by
 obtain⟨h1,h2,F,D⟩:=Xu h;have:=Mm a D;have J:10 ^a.length<=10 ^6:=Nat.pow_le_pow_right (by simp) h2
 grind[xc]
theorem zd (c:UInt8): ∀(s:List UInt8),c9 c (aB c s)=s
 |[]=>rfl
 |b::t=>by
  have D:=zd c t;show c9 c (if b=c then[]::aB c t else match aB c t with|h::r=>(b::h)::r |[]=>[[b]])=b::t
  cases e:aB c t with
  |nil=>exact absurd e (mE c t)
  |cons h r=>
   rw[e] at D;by_cases F:b=c
   · rw[if_pos F];show[]++c::c9 c (h::r)=_;rw[D,F];rfl
   · rw[if_neg F];show c9 c ((b::h)::r)=b::t;cases r with
     |nil=>show b::h=b::t;rw[show t=h from D.symm]
     |cons y q=>show(b::h)++c::c9 c (y::q)=b::t;rw[<-D];rfl
theorem alj {c:UInt8} {s t:List UInt8} (h:aB c s=aB c t):s=t:=by rw[<-zd c s,h,zd]
theorem amv (s:List UInt8):s=s.take (ak bo s 0)++(if ak bo s 0<s.length then 45::s.drop (ak bo s 0+1) else[]):=by
 by_cases h:ak bo s 0<s.length
 · rw[if_pos h];have h1:=aa0 bo s _ 0 rfl h;rw[wE s _ h] at h1;have h2:s[ak bo s 0]=45:=by apply UInt8.toNat_inj.1;exact eq_of_beq h1
   have D:=ak7 h;rw[h2] at D;rw[<-D,as0]
 · rw[if_neg h,ag5,List.take_of_length_le (by omega)]
theorem Ld {s:List UInt8} (h:dc s=true):ky (aR s)=s:=by
 obtain⟨a,b,c,e,D,F,hc⟩:=Qv h;have J:aR s=(((ck a:Int),(ck b:Int),(ck c:Int)),s.drop (ak bo s 0+1)):=by unfold aR;rw[e]
 have N:s.take (ak bo s 0)=a++46::b++46::c:=by rw[<-zd 46 (s.take (ak bo s 0)),e];show a++46::(b++46::c)=_;rw[as2];rfl
 have hs:=amv s;by_cases hm:ak bo s 0<s.length
 · have hp:=Rg h hm;rw[if_pos hm] at hs;have O:s.drop (ak bo s 0+1)≠[]:=by intro g;rw[g] at hp;exact absurd hp (by decide)
   have L:pA (aR s)=true:=by rw[J];unfold pA;simp (disch:=omega) only[K0,zC D,zC F,zC hc,hp]
   unfold ky;rw[J];simp (disch:=omega) only[K0,zH D,zH F,zH hc];grind
 · rw[if_neg hm] at hs;have M:s.drop (ak bo s 0+1)=[]:=au2 (by omega)
   have L:pA (aR s)=true:=by rw[J,M];unfold pA;simp only[zC D,zC F,zC hc];rfl
   unfold ky;rw[J];simp (disch:=omega) only[K0,zH D,zH F,zH hc];grind
theorem RN {s t:List UInt8} (hs:dc s=true) (D:dc t=true) (h:aR s=aR t):s=t:=by rw[<-Ld hs,h,Ld D]
theorem amE {s:List UInt8} (h:dc s=true):pA (aR s)=true:=by
 have h1:=Ld h;cases e:pA (aR s) with
 |true=>rfl
 |false=>unfold ky at h1;rw[e] at h1;have:s=[]:=h1.symm;subst this;exact absurd h (by decide)
theorem qv: ∀{a b:List UInt8},cC a b=0->a=b
 |[],[],_=>rfl
 |[],y::t,h=>by rw[abE] at h;exact absurd h (by simp)
 |x::s,[],h=>by rw[abG] at h;exact absurd h (by simp)
 |x::s,y::t,h=>by
  rw[Mt] at h;split at h
  · rename_i h1;have h2:x=y:=by apply UInt8.toNat_inj.1;have:=gZ.1 h1;omega
    rw[h2,qv h]
  · omega
theorem apG {a b:List UInt8}:cC a b=0<->a=b:=⟨qv,λh=>by rw[h,Fp]⟩
theorem akA {a b:List UInt8} (h:gf a b=0):a=b:=by
 unfold gf at h;split at h
 · omega
 · split at h
   · omega
   · split at h
     · rename_i h1;have:=gZ.1 h;exact absurd (by omega) h1.2
     · exact qv h
theorem Qo {α:Type} {q:α->α->Int} (D: ∀x y,q x y=0->x=y): ∀{l m:List α},cg q l m=0->l.length=m.length->l=m
 |[],[],_,_=>rfl
 |[],y::t,_,h=>by simp at h
 |x::s,[],_,h=>by simp at h
 |x::s,y::t,h,F=>by
  unfold cg at h;split at h
  · rename_i h1;rw[D x y h1,Qo D h (by grind)]
  · omega
theorem alM {l m:List (List UInt8)} (h:mP l m=0):l=m:=by
 unfold mP at h;split at h
 · rename_i h1;exact Qo (λx y=>akA) h1 (by have:=gZ.1 h;omega)
 · omega
theorem Yf {a b:cP} (h:eJ a b=0):a=b:=by
 unfold eJ at h;split at h
 · rename_i h1;have h2:=Qo (q:=aP) (λx y=>gZ.1) h1 rfl;obtain⟨⟨F,a2,a3⟩,ap⟩:=a;obtain⟨⟨J,L,M⟩,D⟩:=b;simp only[iZ] at h2;obtain⟨N,O,U⟩:=h2
   have Y:ap=D:=by
    split at h
    · omega
    · split at h
      · omega
      · split at h
        · omega
        · exact alj (alM h)
   grind
 · omega
theorem ami (a:cP):eJ a a=0:=by unfold eJ;rw[Qp (λx=>gZ.2 rfl),if_pos rfl,if_pos rfl]
theorem Es {s:List UInt8} (h:s.length<=20000):(aR s).2.length<=20000:=by grind[aR]
def bG {α:Type} (l:List α) (p:α->Bool):Int:=match l.findIdx? p with|some k=>(k:Int) |none=> -1
theorem iT {V R α:Type} {f:V->Option (V⊕R)} (l:List α) (p:α->Bool) (st:Nat->V) (a:Nat->R) (b:R)
  (h1: ∀k (h:k<l.length),p l[k]=false->f (st k)=some (.inl (st (k+1))))
  (h2: ∀k (h:k<l.length),p l[k]=true->f (st k)=some (.inr (a k)))
  (J:f (st l.length)=some (.inr b)):ab f (st 0)=some (match l.findIdx? p with|some k=>a k |none=>b):=by
 have: ∀n k,l.length - k=n->k<=l.length->ab f (st k)=some (match(l.drop k).findIdx? p with|some j=>a (k+j) |none=>b):=by
  intro n
  induction n with
  |zero=>grind[bJ]
  |succ n F=>
   intro k L hk;have D:k<l.length:=by omega
   rw[ak7 D,List.findIdx?_cons];cases hp:p l[k] with
   |true=>grind[bJ]
   |false=>
    rw[aZ (h1 k D hp),F (k+1) (by omega) (by omega)]
    cases(List.drop (k+1) l).findIdx? p with
    |none=>rfl
    |some j=>grind
 grind
theorem kX {α:Type} (l:List α) (p:α->Bool):(l.any p=false/\bG l p= -1)\/ ∃k,∃h:k<l.length,l.findIdx? p=some k/\bG l p=(k:Int)/\p l[k]=true/\l.any p=true:=by
 rw[<-List.findIdx?_isSome];unfold bG;cases h:l.findIdx? p with
 |none=>grind
 |some k=>obtain⟨h1,h2,_⟩:=List.findIdx?_eq_some_iff_getElem.1 h;grind
theorem o9 {α:Type} (l:List α) (p:α->Bool) (i:Decidable (0<=bG l p)): @decide (0<=bG l p) i=l.any p:=by
 rcases kX l p with⟨h1,h2⟩ |⟨k,_,_,h2,_,h1⟩
 · grind
 · grind
abbrev fv:=List UInt8×List al
abbrev wY:=List UInt8×List dC
abbrev bO:=List UInt8×List UInt8×List UInt8×List UInt8×Bool×List al×List al×List fv
abbrev nA:=List UInt8×cP×Int×Int×Bool×List dC×List dC×List wY
def ee (f:fv):wY:=(f.1,f.2.map aO)
def cZ (e:bO):nA:=(e.1,aR e.2.1,(dn e.2.2.1:Int),fT e.2.2.2.1,e.2.2.2.2.1,e.2.2.2.2.2.1.map aO,e.2.2.2.2.2.2.1.map aO,e.2.2.2.2.2.2.2.map ee)
structure dD (e:bO):Prop where
 name:gm e.1=true
 cD:dc e.2.1=true
 H4:ir e.2.2.1=true
 HV:pD e.2.2.2.1=true
 sn:e.2.2.2.2.2.1.length<=4
 pJ: ∀n∈e.2.2.2.2.2.1,nY 0 n
 wJ:e.2.2.2.2.2.2.1.length<=8
 dO: ∀n∈e.2.2.2.2.2.2.1,nY 4 n
 iW:e.2.2.2.2.2.2.2.length<=4
 lX: ∀f∈e.2.2.2.2.2.2.2,dL f.1=true/\f.2.length<=8/\ ∀n∈f.2,nY 4 n
 MK:(e.2.2.2.2.2.2.2.map (·.1)).Nodup
 short:e.1.length<=80/\e.2.1.length<=80/\e.2.2.2.1.length<=80
structure ef where
 src:List UInt8
 em:Bool
 l:List bO
 n:List UInt8
 v:List UInt8
 d:List UInt8
 b:List UInt8
 y:Bool
 bs:List al
 ns:List al
 em1:Bool
 fl:List fv
 fn:List UInt8
 fns:List al
def cH (S:ef):List fv:=bif S.em1 then[] else S.fl++[(S.fn,S.fns)]
def sk (S:ef):bO:=(S.n,S.v,S.d,S.b,S.y,S.bs,S.ns,cH S)
def ep (S:ef):List bO:=bif S.em then[] else S.l++[sk S]
structure jT (S:ef):Prop where
 src:dL S.src=true
 cV: ∀e∈ep S,dD e
 many:(ep S).length<=60
 once:((ep S).map λe=>(e.1,e.2.1)).Nodup
 lB:S.l.length<=1000
 OG:S.fl.length<=100
theorem TO (S:ef):(bif S.em1 then[] else(S.fl.map ee++[(S.fn,S.fns.map aO)]))=(cH S).map ee:=by
 unfold cH;cases S.em1 with
 |true=>rfl
 |false=>simp[ag9];rfl
theorem acK (S:ef):(bif S.em then[] else(S.l.map cZ++[(S.n,(((aR S.v).1.1,(aR S.v).1.2.1,(aR S.v).1.2.2),(aR S.v).2),(dn S.d:Int),fT S.b,S.y,S.bs.map aO,S.ns.map aO,(cH S).map ee)]))=(ep S).map cZ:=by
 unfold ep;cases S.em with
 |true=>rfl
 |false=>simp[ag9];rfl
theorem acL (S:ef):(bif S.em then 0 else S.l.length+1)=(ep S).length:=by grind[ep]
theorem iW (S:ef):(bif S.em1 then 0 else S.fl.length+1)=(cH S).length:=by grind[cH]
def jL (n v:List UInt8) (e:bO):Bool:=decide (e.1=n)&&decide (e.2.1=v)
theorem aoS (a b:nA) (D:a.2.1.2.length<=20000) (F:b.2.1.2.length<=20000):KN a b=some (if cC a.1 b.1=0 then eJ a.2.1 b.2.1 else cC a.1 b.1):=by
 unfold KN;simp[DR,Ji _ _ D F];by_cases h:cC a.1 b.1=0
 · grind
 · grind
theorem ZU (e:bO) (he:dD e) (n v:List UInt8) (F:dc v=true) (hs:v.length<=80) (x:nA) (D:x.1=n/\x.2.1=aR v):IV (cZ e) x=some (jL n v e):=by
 unfold IV;have h1:=Es (s:=e.2.1) (by have:=he.short.2.1;omega)
 have h2:x.2.1.2.length<=20000:=by rw[D.2];exact Es (by omega)
 rw[aoS x (cZ e) h2 h1,D.1,D.2];show some (decide ((if cC n e.1=0 then eJ (aR v) (aR e.2.1) else cC n e.1)=0))=_
 unfold jL;by_cases c1:e.1=n
 · rw[dY c1,if_pos (by rw[c1];exact Fp n),at4]
   by_cases c2:e.2.1=v
   · rw[dY c2,dY (by rw[c2];exact ami _)]
   · rw[dN c2,dN (λg=>c2 (RN he.cD F (Yf g).symm))]
 · have: ¬cC n e.1=0:=λg=>c1 (qv g).symm;simp (disch:=omega) only[K0]
theorem aiN (l:List bO) (D: ∀e∈l,dD e) (M:l.length<=1000) (n v:List UInt8) (F:dc v=true) (hs:v.length<=80) (x:nA) (J:x.1=n/\x.2.1=aR v):
  Ik (l.map cZ) x=some (l.any (jL n v)):=by
 have h:=iT (f:=xY) l (jL n v) (λk=>(l.map cZ,x,l.length,k,())) (λk=>Sum.inr (k,())) (Sum.inl ())
  (λk h hp=>by
   have L:k<(l.map cZ).length:=by grind
   simp (disch:=omega) only[K0,xY,ar7,ZU l[k] (D _ (ab7 h)) n v F hs x J,hp])
  (λk h hp=>by
   have L:k<(l.map cZ).length:=by grind
   simp (disch:=omega) only[K0,xY,ar7,ZU l[k] (D _ (ab7 h)) n v F hs x J,hp])
  (by simp only[xY,dN (show¬l.length<(l.length:Int) by omega),cond_false])
 unfold Ik O8;have h':ab xY (l.map cZ,x,((l.map cZ).length),0,())=some (match l.findIdx? (jL n v) with|some k=>Sum.inr (k,()) |none=>Sum.inl ()):=by rw[ae2];exact h
 rw[h'];rw[<-List.findIdx?_isSome];cases l.findIdx? (jL n v) with
 |none=>rfl
 |some k=>simp
theorem My (x:nA) (s:List UInt8) (D:x.2.2.2.2.2.2.2.length<=1000):qb x s=some (bG x.2.2.2.2.2.2.2 λf=>decide (f.1=s)):=by
 have h:=iT (f:=C9) x.2.2.2.2.2.2.2 (λf=>decide (f.1=s)) (λk=>(s,x.2.2.2.2.2.2.2,x.2.2.2.2.2.2.2.length,k,())) (λk=>Sum.inr (k,())) (Sum.inl ())
  (λk h hp=>by have hp:=of_decide_eq_false hp;simp (disch:=omega) only[K0,C9])
  (λk h hp=>by have hp:=of_decide_eq_true hp;simp (disch:=omega) only[K0,C9])
  (by simp[C9])
 grind[qb,bG]
theorem mD (n m:Int) (L:aQ) (D:ct L) (k:Nat) (hk:k<=L.2.1.length):fA n m (L,(k:Int),0,0,0)=some (if m<=n then(L,(k:Int),2,L.1,aL L k) else(L,(k:Int),0,0,0)):=by
 unfold fA;simp[bw];by_cases h:m<=n
 · simp (disch:=omega) only[K0,gF 2 L D k hk (0,0) rfl]
 · grind
theorem apu (l:List bO) (c:bO) (k:Nat) (h:k<(l++[c]).length):(l++[c])[k]=if h2:k<l.length then l[k] else c:=by grind
theorem WE (src n v:List UInt8) (l:List bO) (M N J F:List UInt8) (O:Bool) (bs ns:List al) (em1:Bool) (fl:List fv) (fn:List UInt8) (fns:List al) (L:aQ) (U c li D:Int) (hc: ¬c=0) (hl:l.length<=1000):
  ∀(j k:Nat),l.length+1 - k=j->k<=l.length+1->
  ab nQ ((k:Int),src,[],n,v,[],[],false,l,M,N,J,F,O,L.1,L.2.1,L.2.2,U,c,li,D,bs,ns,em1,fl,fn,fns,())=some (src,[],n,v,[],[],false,l,M,N,J,F,O,L.1,L.2.1,L.2.2,U,c,li,D,bs,ns,em1,fl,fn,fns,()):=by
 intro j
 induction j with
 |zero=>grind[bJ,nQ]
 |succ j Y=>
  intro k Z hk;have e:nQ (k,src,[],n,v,[],[],false,l,M,N,J,F,O,L.1,L.2.1,L.2.2,U,c,li,D,bs,ns,em1,fl,fn,fns,())=some (.inl ((k+1),src,[],n,v,[],[],false,l,M,N,J,F,O,L.1,L.2.1,L.2.2,U,c,li,D,bs,ns,em1,fl,fn,fns,())):=by simp (disch:=omega) only[K0,nQ,bw]
  rw[aZ e];exact Y (k+1) (by omega) (by omega)
theorem QA (e:bO) (n v:List UInt8):FE e n v=some (jL n v e):=by grind[FE,jL]
theorem amc (src n v:List UInt8) (l:List bO) (M N J F:List UInt8) (O:Bool) (bs ns:List al) (em1:Bool) (fl:List fv) (fn:List UInt8) (fns:List al) (L:aQ) (U:ct L) (D:Nat) (Y:D<=L.2.1.length) (hl:l.length<=1000)
  (cur:bO) (Z:cur=(M,N,J,F,O,bs,ns,(bif em1 then[] else(fl++[(fn,fns)])))):
  ∀(j k:Nat),l.length+1 - k=j->k<=l.length+1->
  ab nQ ((k:Int),src,[],n,v,[],[],false,l,M,N,J,F,O,L.1,L.2.1,L.2.2,(D:Int),0,0,0,bs,ns,em1,fl,fn,fns,())=some (
   if((l++[cur]).drop k).any (jL n v)=true then(src,[],n,v,[],[],false,l,M,N,J,F,O,L.1,L.2.1,L.2.2,(D:Int),3,L.1,aL L D,bs,ns,em1,fl,fn,fns,())
   else(src,[],n,v,[],[],false,l,M,N,J,F,O,L.1,L.2.1,L.2.2,(D:Int),0,0,0,bs,ns,em1,fl,fn,fns,())):=by
 intro j
 induction j with
 |zero=>
  intro k hj hk;have e:(l++[cur]).drop k=[]:=au2 (by simp;omega)
  rw[bJ,e];simp only[nQ,cond_false,dN (show¬(k:Int)<((l.length+1:Nat):Int) by omega),List.any_nil,af7,if_false]
 |succ j ih=>
  intro k hj hk;have ah:k<(l++[cur]).length:=by simp;omega
  rw[ak7 ah,List.any_cons,apu]
  have e:nQ ((k:Int),src,[],n,v,[],[],false,l,M,N,J,F,O,L.1,L.2.1,L.2.2,(D:Int),0,0,0,bs,ns,em1,fl,fn,fns,())=some (.inl (
    if jL n v (if h2:k<l.length then l[k] else cur)=true then(((k+1:Nat):Int),src,[],n,v,[],[],false,l,M,N,J,F,O,L.1,L.2.1,L.2.2,(D:Int),3,L.1,aL L D,bs,ns,em1,fl,fn,fns,())
    else(((k+1:Nat):Int),src,[],n,v,[],[],false,l,M,N,J,F,O,L.1,L.2.1,L.2.2,(D:Int),0,0,0,bs,ns,em1,fl,fn,fns,()))):=by
   simp only[nQ,cond_false,dY (show(k:Int)<((l.length+1:Nat):Int) by omega),cond_true,bw,aa7,decide_true,am7,Gi]
   simp (disch:=omega) only[K0,QA];by_cases h2:k<l.length
   · rw[dif_pos h2];simp only[dN (show¬(k:Int)=(l.length:Int) by omega),cond_false,ae9,ae6 h2,aa7,QA]
     cases hs:jL n v l[k] with
     |true=>simp only[cond_true,gF 3 L U D Y (0,0) rfl,aa7,aH,aw (show k+1<=4611686018427387904 by omega),if_true]
     |false=>simp only[cond_false,aH,aw (show k+1<=4611686018427387904 by omega),af7,if_false]
   · rw[dif_neg h2];simp only[dY (show(k:Int)=(l.length:Int) by omega),cond_true,QA,<-Z,aa7]
     cases hs:jL n v cur with
     |true=>simp only[cond_true,gF 3 L U D Y (0,0) rfl,aa7,aH,aw (show k+1<=4611686018427387904 by omega),if_true]
     |false=>simp only[cond_false,aH,aw (show k+1<=4611686018427387904 by omega),af7,if_false]
  cases hs:jL n v (if h2:k<l.length then l[k] else cur) with
  |true=>
   rw[hs,if_pos rfl] at e;rw[aZ e,WE src n v l M N J F O bs ns em1 fl fn fns L (D:Int) 3 L.1 (aL L D) (by decide) hl j (k+1) (by omega) (by omega)]
   rfl
  |false=>
   rw[hs,if_neg (by decide)] at e
   rw[aZ e,Bool.false_or];exact ih (k+1) (by omega) (by omega)
def jK {R:Type} (f:List UInt8->Bool->List nA->List UInt8->Int->Int->Int->List UInt8->Int->Int->Bool->(aQ×Int)->List dC->List dC->Bool->List wY->List UInt8->List dC->R) (S:ef) (r:aQ×Int):R:=
 f S.src S.em (S.l.map cZ) S.n (aR S.v).1.1 (aR S.v).1.2.1 (aR S.v).1.2.2 (aR S.v).2 (dn S.d:Int) (fT S.b) S.y r (S.bs.map aO) (S.ns.map aO) S.em1 (S.fl.map ee) S.fn (S.fns.map aO)
def sd (S:ef) (r:aQ×Int):List UInt8×Bool×List nA×List UInt8×Int×Int×Int×List UInt8×Int×Int×Bool×(aQ×Int)×List dC×List dC×Bool×List wY×List UInt8×List dC×Unit:=
 (S.src,S.em,S.l.map cZ,S.n,(aR S.v).1.1,(aR S.v).1.2.1,(aR S.v).1.2.2,(aR S.v).2,(dn S.d:Int),fT S.b,S.y,r,S.bs.map aO,S.ns.map aO,S.em1,S.fl.map ee,S.fn,S.fns.map aO,())
def Ga {R:Type} (f:List UInt8->Bool->List bO->List UInt8->List UInt8->List UInt8->List UInt8->Bool->gK->List al->List al->Bool->List fv->List UInt8->List al->R) (S:ef) (o:gK):R:=
 f S.src S.em S.l S.n S.v S.d S.b S.y o S.bs S.ns S.em1 S.fl S.fn S.fns
def acm (S:ef) (o:gK):List UInt8×Bool×List bO×List UInt8×List UInt8×List UInt8×List UInt8×Bool×gK×List al×List al×Bool×List fv×List UInt8×List al:=
 (S.src,S.em,S.l,S.n,S.v,S.d,S.b,S.y,o,S.bs,S.ns,S.em1,S.fl,S.fn,S.fns)
theorem Gu {α β:Type} (p:α×β):(p.1,p.2)=p:=rfl
def mO {A B:Type} (r:Option (A⊕(Value×B))) (v:Value):Prop:=match r with|some (.inr x)=>x.1=v |_=>False
theorem lP {A B:Type} {r:Option (A⊕(Value×B))} {v:Value} (h:mO r v): ∃b,r=some (.inr (v,b)):=by
 unfold mO at h;split at h
 · grind
 · grind
def pn {A:Type} (r:Option A) (p:A->Prop):Prop:=match r with|some x=>p x |none=>False
theorem jj {A:Type} {r:Option A} {p:A->Prop} (h:pn r p): ∃x,r=some x/\p x:=by
 unfold pn at h;split at h
 · grind
 · grind
theorem RC (S:ef) (J:S.l.length<=1000) (n v:List UInt8) (L:aQ) (F c li D:Int) (hc: ¬c=0):
  ab nQ (0,S.src,[],n,v,[],[],S.em,S.l,S.n,S.v,S.d,S.b,S.y,L.1,L.2.1,L.2.2,F,c,li,D,S.bs,S.ns,S.em1,S.fl,S.fn,S.fns,())=some (S.src,[],n,v,[],[],S.em,S.l,S.n,S.v,S.d,S.b,S.y,L.1,L.2.1,L.2.2,F,c,li,D,S.bs,S.ns,S.em1,S.fl,S.fn,S.fns,()):=by
 cases he:S.em with
 |true=>simp[bJ,nQ]
 |false=>exact WE S.src n v S.l S.n S.v S.d S.b S.y S.bs S.ns S.em1 S.fl S.fn S.fns L F c li D hc J _ 0 rfl (ae3 _)
theorem amd (S:ef) (J:S.l.length<=1000) (n v:List UInt8) (L:aQ) (F:ct L) (D:Nat) (hk:D<=L.2.1.length):
  ab nQ (0,S.src,[],n,v,[],[],S.em,S.l,S.n,S.v,S.d,S.b,S.y,L.1,L.2.1,L.2.2,(D:Int),0,0,0,S.bs,S.ns,S.em1,S.fl,S.fn,S.fns,())=some (
   if(ep S).any (jL n v)=true then(S.src,[],n,v,[],[],S.em,S.l,S.n,S.v,S.d,S.b,S.y,L.1,L.2.1,L.2.2,(D:Int),3,L.1,aL L D,S.bs,S.ns,S.em1,S.fl,S.fn,S.fns,())
   else(S.src,[],n,v,[],[],S.em,S.l,S.n,S.v,S.d,S.b,S.y,L.1,L.2.1,L.2.2,(D:Int),0,0,0,S.bs,S.ns,S.em1,S.fl,S.fn,S.fns,())):=by
 unfold ep;cases he:S.em with
 |true=>rfl
 |false=>have:=amc S.src n v S.l S.n S.v S.d S.b S.y S.bs S.ns S.em1 S.fl S.fn S.fns L F D hk J (sk S) rfl _ 0 rfl (ae3 _);rw[au3] at this;grind
theorem wO {L:aQ} (D:ct L) {k:Nat} (h:k<L.2.1.length):(L.2.1[k]).length<=80:=(D.2.2 _ (ab7 h)).2
theorem RB {S D:ef} (h1:D.em=false) (h2:D.l=ep S):ep D=ep S++[sk D]:=by grind[ep]
theorem anW (S:ef) (U:jT S) (L:aQ) (J:ct L) (k:Nat) (hk:k<=L.2.1.length):
  (∃Z D,jT Z/\Z.em=false/\D<=L.2.1.length/\jK Dj S (L,(k:Int))=some (.inl (sd Z (L,((D:Nat):Int))))/\Ga Fa S (L,(k:Int),0,0,0)=some (acm Z (L,((D:Nat):Int),0,0,0)))\/
  (∃(c l F:Int) (D:Nat),¬c=0/\D<=L.2.1.length/\mO (jK Dj S (L,(k:Int))) (dt c l F)/\pn (Ga Fa S (L,(k:Int),0,0,0)) λt=>t.2.2.2.2.2.2.2.2.1=(L,(D:Int),c,l,F)):=by
 have hl:=U.lB;have N:S.l.length+2<=1000000000:=by omega
 unfold jK Ga Dj Fa;simp only[ae2,acL S,TO S,acK S,mD _ _ L J k hk,aa7];by_cases bp:(ep S).length=60
 · refine .inr ⟨2,L.1,aL L k,k,by decide,hk,?_,?_⟩
   · simp only[dY (show((ep S).length:Int)=60 by omega),cond_true,cL 2 L J k hk,aa7];rfl
   · have hc: ¬(2:Int)=0:=by decide
     simp only[if_pos (show(60:Int)<=((ep S).length:Int) by omega),iS _ (L,(k:Int),2,L.1,aL L k) hc,aa7,RC S hl _ _ L (k:Int) 2 L.1 (aL L k) hc,Gu,qx (L,(k:Int),2,L.1,aL L k) hc,cond_false]
     rw[ai N];rfl
 · have hm:=U.many;simp only[dN (show¬((ep S).length:Int)=60 by omega),cond_false,if_neg (show¬(60:Int)<=((ep S).length:Int) by omega)]
   rcases acs L k J hk with⟨h1,hn,ah,an⟩ |⟨c,l,F,D,w',hc,O,ah,an⟩
   · simp only[id] at ah;simp only[ah,an,aa7];rcases Zx L (k+1) J h1 with⟨h2,hv,aE,ar⟩ |⟨c,l,F,D,w',hc,O,aE,ar⟩
     · have bb:=aiN (ep S) U.cV (by omega) (L.2.1[k]) (L.2.1[k+1]) hv (wO J h2) (L.2.1[k],aR (L.2.1[k+1]),0,0,false,[],[],[]) ⟨rfl,rfl⟩
       have a8:=amd S hl (L.2.1[k]) (L.2.1[k+1]) L J (k+1+1) h2;simp only[aE,ar,aa7,bb,a8];cases a7:(ep S).any (jL (L.2.1[k]) (L.2.1[k+1])) with
       |true=>
        refine .inr ⟨3,L.1,aL L (k+1+1),k+1+1,by decide,h2,?_,?_⟩
        · simp only[cond_true,cL 3 L J (k+1+1) h2,aa7];rfl
        · have hc: ¬(3:Int)=0:=by decide
          simp only[if_true,Gu,iS _ (L,((k+1+1:Nat):Int),3,L.1,aL L (k+1+1)) hc,aa7,qx (L,((k+1+1:Nat):Int),3,L.1,aL L (k+1+1)) hc,cond_false];rw[ai N];rfl
       |false=>
        simp only[af7,if_false,cond_false,Gu];rcases SU L (k+1+1) J h2 with⟨h3,hd,a1,av⟩ |⟨c,l,F,D,w',hc,O,a1,av⟩
        · simp only[a1,av,aa7];rcases aaX L (k+1+1+1) J h3 with⟨h4,hb,a6,az⟩ |⟨c,l,F,D,w',hc,O,a6,az⟩
          · simp only[a6,az,aa7]
            have ok: ∀y,jT {src:=S.src,em:=false,l:=ep S,n:=L.2.1[k],v:=L.2.1[k+1],d:=L.2.1[k+1+1],b:=L.2.1[k+1+1+1],y:=y,bs:=[],ns:=[],em1:=true,fl:=[],fn:=[],fns:=[]}:=by
             intro y;refine⟨U.src,?_,?_,?_,by show(ep S).length<=1000;omega,ae3 _⟩
             · rw[RB (S:=S) rfl rfl];intro e he;rcases ae5.1 he with he |he
               · exact U.cV e he
               · rw[ah3.1 he];exact⟨hn,hv,hd,hb,ae3 _,(λn h=>by cases h),ae3 _,(λn h=>by cases h),ae3 _,(λn h=>by cases h),List.nodup_nil,⟨wO J h1,wO J h2,wO J h4⟩⟩
             · rw[RB (S:=S) rfl rfl,ae7,au6];omega
             · rw[RB (S:=S) rfl rfl,ag9];refine nR U.once (λg=>?_);obtain⟨e,he,g2⟩:=ar1.1 g;have:(ep S).any (jL (L.2.1[k]) (L.2.1[k+1]))=true:=by rw[aw9];have g3:e.1=L.2.1[k]/\e.2.1=L.2.1[k+1]:=Prod.mk.inj g2;exact⟨e,he,by unfold jL;rw[dY g3.1,dY g3.2];rfl⟩
               rw[a7] at this;cases this
            by_cases Y: ∃h:k+1+1+1+1<L.2.1.length,L.2.1[k+1+1+1+1]=FA
            · obtain⟨M,Y⟩:=Y;refine .inl ⟨_,k+1+1+1+1+1,ok true,rfl,M,?_,?_⟩
              · simp only[arX FA L J _ M Y,aa7];rw[ai N];rfl
              · have bx:=J.2.1;simp only[qm L (k+1+1+1+1) (0,0),dY M,aa7,cond_true,au M,dY Y,aH,aw (show k+1+1+1+1+1<=4611686018427387904 by omega)]
                rw[ai N];rfl
            · refine .inl ⟨_,k+1+1+1+1,ok false,rfl,h4,?_,?_⟩
              · simp only[asw FA L J _ (λM g=>Y ⟨M,g⟩),aa7];rw[ai N];rfl
              · simp only[qm L (k+1+1+1+1) (0,0),aa7];by_cases M:k+1+1+1+1<L.2.1.length
                · simp only[dY M,cond_true,au M,dN (λg=>Y ⟨M,g⟩),cond_false];rw[ai N];rfl
                · simp only[dN M,cond_false];rw[ai N];rfl
          · refine .inr ⟨c,l,F,D,hc,O,?_,?_⟩
            · simp only[a6,aa7];rfl
            · simp only[az,aa7,qx (L,(D:Int),c,l,F) hc,cond_false];rw[ai N];rfl
        · refine .inr ⟨c,l,F,D,hc,O,?_,?_⟩
          · simp only[a1,aa7];rfl
          · simp only[av,aa7,iS _ (L,(D:Int),c,l,F) hc,qx (L,(D:Int),c,l,F) hc,cond_false];rw[ai N];rfl
     · refine .inr ⟨c,l,F,D,hc,O,?_,?_⟩
       · simp only[aE,aa7];rfl
       · simp only[ar,aa7,RC S hl _ _ L (D:Int) c l F hc,Gu,iS _ (L,(D:Int),c,l,F) hc,qx (L,(D:Int),c,l,F) hc,cond_false];rw[ai N];rfl
   · refine .inr ⟨c,l,F,D,hc,O,?_,?_⟩
     · simp only[ah,aa7];rfl
     · simp only[an,aa7,RC S hl _ _ L (D:Int) c l F hc,Gu,iS _ (L,(D:Int),c,l,F) hc,qx (L,(D:Int),c,l,F) hc,cond_false];rw[ai N];rfl
theorem jT.cur {S:ef} (h:jT S) (he:S.em=false):dD (sk S):=h.cV _ (by unfold ep;rw[he];simp)
theorem jT.Nd {S D:ef} (h:jT S) (he:S.em=false) (N:D.em=false) (hs:D.src=S.src) (L:D.l=S.l) (O:D.n=S.n) (U:D.v=S.v) (M:D.fl.length<=100) (hc:dD (sk D)):jT D:=by
 have J:ep S=S.l++[sk S]:=by unfold ep;rw[he];rfl
 have F:ep D=S.l++[sk D]:=by unfold ep;rw[N,L];rfl
 refine⟨by rw[hs];exact h.src,?_,?_,?_,by rw[L];exact h.lB,M⟩
 · rw[F];intro e g;rcases ae5.1 g with g |g
   · exact h.cV e (by grind)
   · grind
 · have:=h.many;rw[J,ae7] at this;rw[F,ae7];exact this
 · have:=h.once;rw[J] at this;rw[F];have Y:([sk D].map λe=>(e.1,e.2.1))=[sk S].map λe=>(e.1,e.2.1):=by show[(D.n,D.v)]=[(S.n,S.v)];rw[O,U]
   grind
def ud (S:ef) (w:List UInt8) (o:gK):=y7 S.n S.v S.d S.b S.y w S.bs S.ns S.em1 S.fl S.fn S.fns o
def MO (S:ef) (w:List UInt8) (o:gK):=Kj S.n S.v S.d S.b S.y w S.bs S.ns S.em1 S.fl S.fn S.fns o
def M9 (S:ef) (o:gK):List UInt8×List UInt8×List UInt8×List UInt8×Bool×List al×List al×Bool×List fv×List UInt8×List al×gK:=
 (S.n,S.v,S.d,S.b,S.y,S.bs,S.ns,S.em1,S.fl,S.fn,S.fns,o)
theorem kZ {α:Type} {l:List α} {x:α} {p:α->Prop} (h: ∀y∈l,p y) (D:p x): ∀y∈l++[x],p y:=by grind
def AF {A B:Type} (S:ef) (L:aQ) (p:Option (List UInt8×Bool×List nA×List UInt8×Int×Int×Int×List UInt8×Int×Int×Bool×(aQ×Int)×List dC×List dC×Bool×List wY×List UInt8×List dC×Unit⊕(Value×B))) (d:Option (List UInt8×List UInt8×List UInt8×List UInt8×Bool×List al×List al×Bool×List fv×List UInt8×List al×gK)):Prop:=
 (∃D F,jT D/\D.em=false/\D.src=S.src/\D.l=S.l/\F<=L.2.1.length/\p=some (.inl (sd D (L,((F:Nat):Int))))/\d=some (M9 D (L,((F:Nat):Int),0,0,0)))\/
 (∃(c l J:Int) (F:Nat),¬c=0/\F<=L.2.1.length/\mO p (dt c l J)/\pn d λt=>t.2.2.2.2.2.2.2.2.2.2.2=(L,(F:Int),c,l,J))
theorem aq6 (S:ef) (N:jT S) (he:S.em=false) (L:aQ) (F:ct L) (k:Nat) (hk:k<=L.2.1.length):
  AF (A:=Unit) S L (jK JS S (L,(k:Int))) (ud S uj (L,(k:Int),0,0,0)):=by
 have D:=N.cur he;have b4:S.bs.length<=4:=D.sn;have f4:(cH S).length<=4:=D.iW;unfold AF jK ud JS y7;simp only[he,ae2,iW S];by_cases c1:0<S.ns.length
 · refine .inr ⟨1,L.1,aL L k,k,by decide,hk,?_,?_⟩
   · simp (disch:=omega) only[K0,cL 1 L F k hk];rfl
   · have hc: ¬(1:Int)=0:=by decide
     simp[gF 1 L F k hk (0,0) rfl,Fs _ _ (L,k,1,L.1,aL L k) hc,wm _ (L,k,1,L.1,aL L k) hc];simp (disch:=omega) only[K0];rfl
 · simp only[dN (show¬0<(S.ns.length:Int) by omega)]
   by_cases c2:0<(cH S).length
   · refine .inr ⟨1,L.1,aL L k,k,by decide,hk,?_,?_⟩
     · simp (disch:=omega) only[K0,cL 1 L F k hk];rfl
     · have hc: ¬(1:Int)=0:=by decide
       simp[gF 1 L F k hk (0,0) rfl,Fs _ _ (L,k,1,L.1,aL L k) hc,wm _ (L,k,1,L.1,aL L k) hc];simp (disch:=omega) only[K0];rfl
   · simp only[dN (show¬0<((cH S).length:Int) by omega),mD _ _ L F k hk]
     by_cases c3:S.bs.length=4
     · refine .inr ⟨2,L.1,aL L k,k,by decide,hk,?_,?_⟩
       · simp (disch:=omega) only[K0,cL 2 L F k hk];rfl
       · have hc: ¬(2:Int)=0:=by decide
         simp[if_pos (show(4:Int)<=S.bs.length by omega),wm _ (L,k,2,L.1,aL L k) hc]
         simp (disch:=omega) only[K0];rfl
     · simp only[dN (show¬(S.bs.length:Int)=4 by omega),if_neg (show¬4<=(S.bs.length:Int) by omega)]
       rcases MW 0 (by simp) L k F hk with⟨n,U,O,Z,M,J⟩ |⟨c,l,Y,U,n,hc,O,M,J⟩
       · have M:jF 0 (L,k)=_:=M;have J:fy 0 (L,k,0,0,0)=_:=J;refine .inl ⟨{S with em:=false,bs:=S.bs++[n]},U,N.Nd he rfl rfl rfl rfl rfl N.OG ⟨D.name,D.cD,D.H4,D.HV,?_,kZ D.pJ Z,D.wJ,D.dO,D.iW,D.lX,D.MK,D.short⟩,rfl,rfl,rfl,O,?_,?_⟩
         · show(S.bs++[n]).length<=4;grind
         · simp[M];simp (disch:=omega) only[K0];unfold sd;simp[ag9];rfl
         · simp[J];simp (disch:=omega) only[K0];rfl
       · have M:jF 0 (L,k)=_:=M;have J:fy 0 (L,k,0,0,0)=_:=J;refine .inr ⟨c,l,Y,U,hc,O,?_,?_⟩
         · simp[M];rfl
         · simp[J];simp (disch:=omega) only[K0];rfl
theorem aoZ (S:ef) (Y:jT S) (he:S.em=false) (L:aQ) (U:ct L) (k:Nat) (hk:k<=L.2.1.length):
  AF (A:=Unit) S L (jK JH S (L,(k:Int))) (ud S tW (L,(k:Int),0,0,0)):=by
 have D:=Y.cur he;have n8:S.ns.length<=8:=D.wJ;have f4:(cH S).length<=4:=D.iW;unfold AF jK ud JH y7;simp only[he,Gi,ae2,decide_true,cond_false];cases h1:S.em1 with
 |true=>
  simp only[ai rfl,dY (show(0:Int) - 1<0 by decide),mD _ _ L U k hk,aa7]
  by_cases c3:S.ns.length=8
  · refine .inr ⟨2,L.1,aL L k,k,by decide,hk,?_,?_⟩
    · simp (disch:=omega) only[K0,cL 2 L U k hk];rfl
    · have hc: ¬(2:Int)=0:=by decide
      simp[if_pos (show(8:Int)<=S.ns.length by omega),wm _ (L,k,2,L.1,aL L k) hc]
      simp (disch:=omega) only[K0];rfl
  · simp only[dN (show¬(S.ns.length:Int)=8 by omega),if_neg (show¬8<=(S.ns.length:Int) by omega)]
    rcases MW 4 (by simp) L k U hk with⟨n,O,N,hn,J,F⟩ |⟨c,l,ah,O,n,hc,N,J,F⟩
    · have J:jF 4 (L,k)=_:=J;have F:fy 4 (L,k,0,0,0)=_:=F;have M:cH {S with em:=false,em1:=true,ns:=S.ns++[n]}=cH S:=by unfold cH;rw[h1]
      refine .inl ⟨{S with em:=false,em1:=true,ns:=S.ns++[n]},O,Y.Nd he rfl rfl rfl rfl rfl Y.OG ⟨D.name,D.cD,D.H4,D.HV,D.sn,D.pJ,?_,kZ D.dO hn,?_,?_,?_,D.short⟩,rfl,rfl,rfl,N,?_,?_⟩
      · show(S.ns++[n]).length<=8;simp;omega
      · show(cH {S with em:=false,em1:=true,ns:=S.ns++[n]}).length<=4;rw[M];exact f4
      · show∀f∈cH {S with em:=false,em1:=true,ns:=S.ns++[n]},_;rw[M];exact D.lX
      · show((cH {S with em:=false,em1:=true,ns:=S.ns++[n]}).map (·.1)).Nodup;rw[M];exact D.MK
      · simp[J];simp (disch:=omega) only[K0];unfold sd;simp only[ag9];rfl
      · simp[F];simp (disch:=omega) only[K0];rfl
    · have J:jF 4 (L,k)=_:=J;have F:fy 4 (L,k,0,0,0)=_:=F;refine .inr ⟨c,l,ah,O,hc,N,?_,?_⟩
      · simp[J];rfl
      · simp[F];simp (disch:=omega) only[K0];rfl
 |false=>
  have M:cH S=S.fl++[(S.fn,S.fns)]:=by unfold cH;grind
  have av:S.fl.length<=3:=by grind
  have an:=D.lX (S.fn,S.fns) (by show(S.fn,S.fns)∈cH S;rw[M];simp)
  have l8:S.fns.length<=8:=an.2.1;have ex:(((S.fl.length+1:Nat):Int) - 1)=S.fl.length:=by omega
  simp only[cond_false,ex,dY (show(0:Int)<((S.fl.length+1):Int) by omega),dN (show¬S.fl.length<0 by omega)]
  simp only[ai (show aa .i64 S.fl.length by exact bd (by omega)),ai (show(0:Int)<=S.fl.length/\S.fl.length<=(S.fl.length:Int) by omega),mD _ _ L U k hk]
  by_cases c3:S.fns.length=8
  · refine .inr ⟨2,L.1,aL L k,k,by decide,hk,?_,?_⟩
    · simp (disch:=omega) only[K0,cL 2 L U k hk];rfl
    · have hc: ¬(2:Int)=0:=by decide
      simp[if_pos (show(8:Int)<=S.fns.length by omega),wm _ (L,k,2,L.1,aL L k) hc]
      simp (disch:=omega) only[K0];rfl
  · simp only[dN (show¬(S.fns.length:Int)=8 by omega),if_neg (show¬8<=(S.fns.length:Int) by omega)]
    rcases MW 4 (by simp) L k U hk with⟨n,O,N,hn,J,F⟩ |⟨c,l,ah,O,n,hc,N,J,F⟩
    · have J:jF 4 (L,k)=_:=J;have F:fy 4 (L,k,0,0,0)=_:=F;refine .inl ⟨{S with em:=false,em1:=false,fns:=S.fns++[n]},O,Y.Nd he rfl rfl rfl rfl rfl Y.OG ⟨D.name,D.cD,D.H4,D.HV,D.sn,D.pJ,D.wJ,D.dO,?_,?_,?_,D.short⟩,rfl,rfl,rfl,N,?_,?_⟩
      · show(S.fl++[(S.fn,S.fns++[n])]).length<=4;simp;omega
      · show∀f∈S.fl++[(S.fn,S.fns++[n])],_;have Z:=D.lX;have Z: ∀f∈cH S,dL f.1=true/\f.2.length<=8/\ ∀n∈f.2,nY 4 n:=Z;rw[M] at Z;refine kZ (λf hf=>Z f (List.mem_append_left _ hf)) ⟨an.1,by show(S.fns++[n]).length<=8;simp;omega,kZ an.2.2 hn⟩
      · have ar:((cH S).map (·.1)).Nodup:=D.MK
        rw[M,ag9] at ar;show((S.fl++[(S.fn,S.fns++[n])]).map (·.1)).Nodup
        rw[ag9];exact ar
      · simp[J];simp (disch:=omega) only[K0];unfold sd;simp only[ag9];rfl
      · simp[F];simp (disch:=omega) only[K0];rfl
    · have J:jF 4 (L,k)=_:=J;have F:fy 4 (L,k,0,0,0)=_:=F;refine .inr ⟨c,l,ah,O,hc,N,?_,?_⟩
      · simp[J];rfl
      · simp[F];simp (disch:=omega) only[K0];rfl
theorem Ws (w n v d b:List UInt8) (y:Bool) (bs ns:List al) (em1:Bool) (fl:List fv) (fn:List UInt8) (fns:List al) (L:aQ) (F c li D:Int) (hc: ¬c=0) (m:Nat) (hm:m<=1000):
  ∀(j k:Nat),m - k=j->k<=m->
  ab nM ((m:Int) - 1,w,(k:Int),n,v,d,b,y,[],[],[],[],bs,ns,em1,fl,fn,fns,L.1,L.2.1,L.2.2,F,c,li,D,())=some (w,n,v,d,b,y,[],[],[],[],bs,ns,em1,fl,fn,fns,L.1,L.2.1,L.2.2,F,c,li,D,()):=by
 intro j
 induction j with
 |zero=>grind[bJ,nM]
 |succ j J=>
  intro k M hk;have e:nM (m - 1,w,k,n,v,d,b,y,[],[],[],[],bs,ns,em1,fl,fn,fns,L.1,L.2.1,L.2.2,F,c,li,D,())=some (.inl (m - 1,w,(k+1),n,v,d,b,y,[],[],[],[],bs,ns,em1,fl,fn,fns,L.1,L.2.1,L.2.2,F,c,li,D,())):=by simp (disch:=omega) only[K0,nM,bw]
  rw[aZ e];exact J (k+1) (by omega) (by omega)
theorem aj0 (w n v d b:List UInt8) (y:Bool) (bs ns:List al) (fl:List fv) (fn:List UInt8) (fns:List al) (L:aQ) (F:ct L) (D:Nat) (J:D<=L.2.1.length) (Y:fl.length<=100):
  ∀(j k:Nat),fl.length+1 - k=j->k<=fl.length+1->
  ab nM (((fl.length+1:Nat):Int) - 1,w,(k:Int),n,v,d,b,y,[],[],[],[],bs,ns,false,fl,fn,fns,L.1,L.2.1,L.2.2,(D:Int),0,0,0,())=some (
   if((fl++[(fn,fns)]).drop k).any (λf=>decide (f.1=w))=true then(w,n,v,d,b,y,[],[],[],[],bs,ns,false,fl,fn,fns,L.1,L.2.1,L.2.2,(D:Int),3,L.1,aL L D,())
   else(w,n,v,d,b,y,[],[],[],[],bs,ns,false,fl,fn,fns,L.1,L.2.1,L.2.2,(D:Int),0,0,0,())):=by
 intro j
 induction j with
 |zero=>
  intro k N hk;have e:(fl++[(fn,fns)]).drop k=[]:=au2 (by grind)
  rw[bJ,e];simp only[nM,cond_false,dN (show¬k<=((fl.length+1:Nat):Int) - 1 by omega),List.any_nil,af7,if_false]
 |succ j U=>
  intro k N hk;have O:k<(fl++[(fn,fns)]).length:=by simp;omega
  have M:(fl++[(fn,fns)])[k]=if h2:k<fl.length then fl[k] else(fn,fns):=by simp[List.getElem_append]
  rw[ak7 O,List.any_cons,M]
  have e:nM (((fl.length+1:Nat):Int) - 1,w,k,n,v,d,b,y,[],[],[],[],bs,ns,false,fl,fn,fns,L.1,L.2.1,L.2.2,D,0,0,0,())=some (.inl (
    if decide ((if h2:k<fl.length then fl[k] else(fn,fns)).1=w)=true then(((fl.length+1:Nat):Int) - 1,w,((k+1:Nat):Int),n,v,d,b,y,[],[],[],[],bs,ns,false,fl,fn,fns,L.1,L.2.1,L.2.2,D,3,L.1,aL L D,())
    else((fl.length+1) - 1,w,(k+1),n,v,d,b,y,[],[],[],[],bs,ns,false,fl,fn,fns,L.1,L.2.1,L.2.2,D,0,0,0,()))):=by
   simp only[nM,dY (show(k:Int)<=(fl.length+1) - 1 by omega),bw,am7,Gi]
   by_cases h2:k<fl.length
   · rw[dif_pos h2];simp (disch:=omega) only[K0];by_cases hs:(fl[k]).1=w
     · simp[dY hs,cond_true,gF 3 L F D J (0,0) rfl,aw (show k+1<=4611686018427387904 by omega),if_true]
     · grind
   · rw[dif_neg h2];simp (disch:=omega) only[K0];by_cases hs:fn=w
     · simp[dY hs,cond_true,gF 3 L F D J (0,0) rfl,aw (show k+1<=4611686018427387904 by omega),if_true]
     · simp[dN hs,cond_false,af7]
  cases hs:decide ((if h2:k<fl.length then fl[k] else(fn,fns)).1=w) with
  |true=>
   rw[hs,if_pos rfl] at e;rw[aZ e,Ws w n v d b y bs ns false fl fn fns L D 3 L.1 (aL L D) (by simp) (fl.length+1) (by omega) j (k+1) (by omega) (by omega)]
   rfl
  |false=>rw[hs] at e;rw[aZ e];exact U (k+1) (by omega) (by omega)
theorem akN (S:ef) (O:jT S) (he:S.em=false) (L:aQ) (M:ct L) (k:Nat) (hk:k<=L.2.1.length):
  AF (A:=Unit) S L (jK Ja S (L,(k:Int))) (MO S oX (L,(k:Int),0,0,0)):=by
 have az:=O.OG;have D:=O.cur he;have f4:(cH S).length<=4:=D.iW;have Y: ∀(w:List UInt8) (F c li J:Int) (hc: ¬c=0),ab nM (((cH S).length:Int) - 1,w,0,S.n,S.v,S.d,S.b,S.y,[],[],[],[],S.bs,S.ns,S.em1,S.fl,S.fn,S.fns,L.1,L.2.1,L.2.2,F,c,li,J,())=some (w,S.n,S.v,S.d,S.b,S.y,[],[],[],[],S.bs,S.ns,S.em1,S.fl,S.fn,S.fns,L.1,L.2.1,L.2.2,F,c,li,J,()):=λw F c li J hc=>Ws w S.n S.v S.d S.b S.y S.bs S.ns S.em1 S.fl S.fn S.fns L F c li J hc (cH S).length (by omega) _ 0 rfl (ae3 _)
 have ar: ∀(w:List UInt8) (F:Nat) (Z:F<=L.2.1.length),ab nM (((cH S).length:Int) - 1,w,0,S.n,S.v,S.d,S.b,S.y,[],[],[],[],S.bs,S.ns,S.em1,S.fl,S.fn,S.fns,L.1,L.2.1,L.2.2,(F:Int),0,0,0,())=some (
   if(cH S).any (λf=>decide (f.1=w))=true then(w,S.n,S.v,S.d,S.b,S.y,[],[],[],[],S.bs,S.ns,S.em1,S.fl,S.fn,S.fns,L.1,L.2.1,L.2.2,(F:Int),3,L.1,aL L F,())
   else(w,S.n,S.v,S.d,S.b,S.y,[],[],[],[],S.bs,S.ns,S.em1,S.fl,S.fn,S.fns,L.1,L.2.1,L.2.2,(F:Int),0,0,0,())):=by
  intro w F Z;cases h1:S.em1 with
  |true=>
   have e:cH S=[]:=by unfold cH;rw[h1];rfl
   rw[e,bJ];simp only[nM,as5,dN (show¬(0:Int)<=((0:Nat):Int) - 1 by decide),cond_false,List.any_nil,af7,if_false]
  |false=>
   have e:cH S=S.fl++[(S.fn,S.fns)]:=by unfold cH;rw[h1];rfl
   have:=aj0 w S.n S.v S.d S.b S.y S.bs S.ns S.fl S.fn S.fns L M F Z az _ 0 rfl (ae3 _);rw[au3] at this;rw[e,ae7,au6];exact this
 unfold AF jK MO Ja Kj;simp only[he,am7,Gi,ae2,TO S,iW S,dN (show¬oX=uj by decide),dN (show¬oX=tW by decide),decide_true,cond_true,cond_false]
 rw[ai (show aa .i64 (((cH S).length:Int) - 1) by exact bd (by omega))]
 simp only[mD _ _ L M k hk,aa7];by_cases c4:(cH S).length=4
 · refine .inr ⟨2,L.1,aL L k,k,by decide,hk,?_,?_⟩
   · simp only[dY (show((cH S).length:Int)=4 by omega),cond_true,cL 2 L M k hk,aa7];rfl
   · have hc: ¬(2:Int)=0:=by decide
     simp only[if_pos (show(4:Int)<=((cH S).length:Int) by omega),aa7,iS _ (L,(k:Int),2,L.1,aL L k) hc,Y _ _ 2 _ _ hc]
     rw[ai (by omega)];rfl
 · simp only[dN (show¬((cH S).length:Int)=4 by omega),cond_false,if_neg (show¬(4:Int)<=((cH S).length:Int) by omega)]
   rcases Tu L k M hk with⟨h1,hp,N,U⟩ |⟨c,l,J,k',w',hc,av,N,U⟩
   · simp only[id] at N;have ah:=My (S.n,(((aR S.v).1.1,(aR S.v).1.2.1,(aR S.v).1.2.2),(aR S.v).2),(dn S.d:Int),fT S.b,S.y,S.bs.map aO,S.ns.map aO,(cH S).map ee) (L.2.1[k]) (by show((cH S).map ee).length<=1000;rw[ae2];omega)
     have an:((cH S).map ee).any (λf=>decide (f.1=L.2.1[k]))=(cH S).any (λf=>decide (f.1=L.2.1[k])):=by rw[List.any_map];rfl
     simp only[N,U,aa7,ah,ar _ (k+1) h1,o9,an];cases ha:(cH S).any (λf=>decide (f.1=L.2.1[k])) with
     |true=>
      refine .inr ⟨3,L.1,aL L (k+1),k+1,by decide,h1,?_,?_⟩
      · simp only[cond_true,cL 3 L M (k+1) h1,aa7];rfl
      · simp only[if_true];rw[ai (by omega)];rfl
     |false=>
      refine .inl ⟨{S with em:=false,em1:=false,fl:=cH S,fn:=L.2.1[k],fns:=[]},k+1,O.Nd he rfl rfl rfl rfl rfl (by show(cH S).length<=100;omega) ⟨D.name,D.cD,D.H4,D.HV,D.sn,D.pJ,D.wJ,D.dO,?_,?_,?_,D.short⟩,rfl,rfl,rfl,h1,?_,?_⟩
      · show(cH S++[(L.2.1[k],[])]).length<=4;simp;omega
      · show∀f∈cH S++[(L.2.1[k],[])],_;exact kZ D.lX ⟨hp,ae3 _,λn h=>by cases h⟩
      · show((cH S++[(L.2.1[k],[])]).map (λf:fv=>f.1)).Nodup;rw[ag9];refine nR D.MK (λg=>?_);obtain⟨f,hf,g2⟩:=ar1.1 g;have:(cH S).any (λf=>decide (f.1=L.2.1[k]))=true:=by rw[aw9];exact⟨f,hf,decide_eq_true g2⟩
        rw[ha] at this;cases this
      · simp only[cond_false];rw[ai (by omega)];rfl
      · simp only[af7,if_false];rw[ai (by omega)];rfl
   · refine .inr ⟨c,l,J,k',hc,av,?_,?_⟩
     · simp only[N,aa7];rfl
     · simp only[U,aa7,Y _ _ c _ _ hc];rw[ai (by omega)];rfl
theorem iV (o:gK) (h: ¬o.2.2.1=0):gE o=some o:=by unfold gE;simp (disch:=omega) only[K0,qx o h]
theorem mI (L:aQ) (D:ct L) (k:Nat) (h:k<L.2.1.length):gE (L,(k:Int),0,0,0)=some (L,((k+1:Nat):Int),1,L.1,aL L (k+1)):=by have F:=D.2.1;unfold gE;simp (disch:=omega) only[K0,qm L k (0,0),gF 1 L D (k+1) h (0,0) rfl]
theorem mH (L:aQ) (k:Nat) (h: ¬k<L.2.1.length):gE (L,(k:Int),0,0,0)=some (L,(k:Int),0,0,0):=by unfold gE;simp (disch:=omega) only[K0,qm L k (0,0)]
def S0:ef:=⟨[],true,[],[],[],[],[],false,[],[],true,[],[],[]⟩
def lY (ls:List aQ) (i:Nat) (S:ef):List aQ×Int×Int×List UInt8×Bool×List nA×List UInt8×Int×Int×Int×List UInt8×Int×Int×Bool×List dC×List dC×Bool×List wY×List UInt8×List dC×Unit:=
 (ls,(ls.length:Int),(i:Int),S.src,S.em,S.l.map cZ,S.n,(aR S.v).1.1,(aR S.v).1.2.1,(aR S.v).1.2.2,(aR S.v).2,(dn S.d:Int),fT S.b,S.y,S.bs.map aO,S.ns.map aO,S.em1,S.fl.map ee,S.fn,S.fns.map aO,())
def lQ (ls:List aQ) (i:Nat) (S:ef):List aQ×Int×List UInt8×Int×Int×Int×List UInt8×Bool×List bO×List UInt8×List UInt8×List UInt8×List UInt8×Bool×List al×List al×Bool×List fv×List UInt8×List al×Unit:=
 (ls,(i:Int),[],0,0,0,S.src,S.em,S.l,S.n,S.v,S.d,S.b,S.y,S.bs,S.ns,S.em1,S.fl,S.fn,S.fns,())
def wZ {A B C:Type} (r:Option (A⊕(B⊕(Value×C)))) (v:Value):Prop:=match r with|some (.inr (.inr x))=>x.1=v |_=>False
theorem A3 {A B C:Type} {r:Option (A⊕(B⊕(Value×C)))} {v:Value} (h:wZ r v): ∃b,r=some (.inr (.inr (v,b))):=by
 unfold wZ at h;split at h
 · grind
 · grind
def Na (ls:List aQ) (i:Nat) (S:ef):Prop:=
 (∃D,jT D/\kP (lY ls i S)=some (.inl (lY ls (i+1) D))/\kW (lQ ls i S)=some (.inl (lQ ls (i+1) D)))\/
 (∃c l F:Int,¬c=0/\wZ (kP (lY ls i S)) (dt c l F)/\kW (lQ ls i S)=some (.inr (.inr ([],c,l,F,()))))
theorem ali (ls:List aQ) (h0:0<ls.length) (hn:ls.length<=800) (D:ct ls[0]) (h1:1<=(ls[0]).2.1.length):Na ls 0 S0:=by
 have Y: ∀{R:Type} (f:aQ->Option R),(ag ls (((0:Nat):Int))).bind f=f ls[0]:=λf=>au (k:=0) h0 f;generalize an:ls[0]=L at D h1 Y;have N:=qz L D 0 h1;have O:=qw L D 0 (0,0) h1;have N:fh (L,0)=_:=N;have O:jg (L,0,0,0,0)=_:=O;unfold Na lY lQ;simp only[kP,kW,S0,dY (show((0:Nat):Int)<ls.length by omega),Y,O,aa7,dY (show((0:Nat):Int)=0 by rfl),JI,N,decide_true]
 by_cases hi:L.2.1[0]=SY
 · simp only[dY hi,cond_true];rcases Tu L 1 D h1 with⟨h2,hp,F,J⟩ |⟨c,l,U,k',w',hc,ar,F,J⟩
   · simp only[id] at F;have F:=F;have J:=J;simp only[F,J,aa7,gb];by_cases M:1+1<L.2.1.length
     · refine .inr ⟨1,L.1,aL L (1+1+1),by decide,?_,?_⟩
       · have ah:=D.2.1;simp (disch:=omega) only[K0,cL 1 L D (1+1+1) M];rfl
       · simp (disch:=omega) only[K0,mI L D (1+1) M,bw]
     · refine .inl ⟨{S0 with src:=L.2.1[1]},⟨hp,(λe h=>by cases h),ae3 _,List.nodup_nil,ae3 _,ae3 _⟩,?_,?_⟩
       · simp (disch:=omega) only[K0];rfl
       · simp (disch:=omega) only[K0,mH L (1+1) M];rfl
   · have F:=F;have J:=J;refine .inr ⟨c,l,U,hc,?_,?_⟩
     · simp only[F];rfl
     · simp (disch:=omega) only[K0,J,iV (L,k',c,l,U) hc,bw]
 · have hf:=cL 1 L D (0+1) h1;have Z:=gF 1 L D (0+1) h1 (0,0) rfl;have hc: ¬(1:Int)=0:=by decide
   refine .inr ⟨1,L.1,aL L (0+1),by decide,?_,?_⟩
   · simp (disch:=omega) only[K0,hf];rfl
   · simp (disch:=omega) only[K0,Z,iS _ (L,((0+1:Nat):Int),1,L.1,aL L (0+1)) hc,iV (L,((0+1:Nat):Int),1,L.1,aL L (0+1)) hc,bw]
theorem R6 {s:List UInt8} (h:dL s=true): ¬s=[]:=λe=>by rw[e] at h;cases h
theorem amQ (ls:List aQ) (i:Nat) (hi:i<ls.length) (h0:0<i) (hn:ls.length<=800) (M:ct ls[i]) (h1:1<=(ls[i]).2.1.length) (S:ef) (Y:jT S):Na ls i S:=by
 have hg: ∀{R:Type} (f:aQ->Option R),(ag ls i).bind f=f ls[i]:=λf=>au hi f;generalize bp:ls[i]=L at M h1 hg;have a6:=qz L M 0 h1;have a7:=qw L M 0 (0,0) h1;have a6:fh (L,0)=_:=a6;have a7:jg (L,0,0,0,0)=_:=a7;have bb:=M.2.1;have a8:=R6 Y.src;have aE:i+1<=4611686018427387904:=by omega
 unfold Na lY lQ;simp only[kP,kW,dY (show(i:Int)<ls.length by omega),cond_true,hg,a7,aa7,dN (show¬(i:Int)=0 by omega),cond_false,JI,a6,dN a8,am7]
 by_cases c1:L.2.1[0]=SZ
 · simp only[dY c1,cond_true];rcases anW S Y L M (0+1) h1 with⟨U,J,Z,ar,ah,D,F⟩ |⟨c,l,O,J,hc,ah,D,F⟩
   · have D:=D;have F:=F;unfold jK at D;unfold Ga at F;simp only[D,F,aa7,sd,acm,gb];by_cases N:J<L.2.1.length
     · refine .inr ⟨1,L.1,aL L (J+1),by decide,?_,?_⟩
       · simp (disch:=omega) only[K0,cL 1 L M (J+1) N];rfl
       · simp (disch:=omega) only[K0,mI L M J N,bw]
     · refine .inl ⟨U,Z,?_,?_⟩
       · simp (disch:=omega) only[K0]
       · simp only[mH L J N,aa7,bw,decide_true,ae8,cond_false,aH,aw aE]
   · obtain⟨b,D⟩:=lP D;obtain⟨t,F,an⟩:=jj F;unfold jK at D;unfold Ga at F;refine .inr ⟨c,l,O,hc,?_,?_⟩
     · simp only[D,aa7];rfl
     · simp (disch:=omega) only[K0,F,an,iV (L,J,c,l,O) hc,bw]
 · simp only[dN c1,cond_false,ae2,acL S];cases he:S.em with
   |true=>
    have e0:(ep S).length=0:=by unfold ep;rw[he];rfl
    have hc: ¬(1:Int)=0:=by decide
    have hf:=cL 1 L M (0+1) h1;have a1:=gF 1 L M (0+1) h1 (0,0) rfl;refine .inr ⟨1,L.1,aL L (0+1),by decide,?_,?_⟩
    · simp (disch:=omega) only[K0,e0,hf];rfl
    · simp (disch:=omega) only[K0,e0,a1,iV (L,((0+1:Nat):Int),1,L.1,aL L (0+1)) hc,bw]
   |false=>
    have e1:(ep S).length=S.l.length+1:=by unfold ep;rw[he];simp
    have bx:=Y.lB;have ex:(((S.l.length+1:Nat):Int) - 1)=(S.l.length:Int):=by omega
    simp only[e1,dN (show¬((S.l.length+1:Nat):Int)=0 by omega),cond_false,ex,ai (show aa .i64 (S.l.length:Int) by exact bd (by omega)),am7,Gi,ai (show(0:Int)<=(S.l.length:Int)/\(S.l.length:Int)<=(S.l.length:Int) by omega),dY (show(S.l.length:Int)=(S.l.length:Int) by rfl),cond_true]
    by_cases c2:L.2.1[0]=uj
    · simp only[c2,dN (show¬uj=oX by decide),decide_true,cond_true,cond_false]
      rcases aq6 S Y he L M (0+1) h1 with⟨U,J,Z,ar,az,av,ah,D,F⟩ |⟨c,l,O,J,hc,ah,D,F⟩
      · unfold jK at D;unfold ud at F;rw[he] at D;simp only[D,F,aa7,sd,M9,gb];by_cases N:J<L.2.1.length
        · refine .inr ⟨1,L.1,aL L (J+1),by decide,?_,?_⟩
          · simp (disch:=omega) only[K0,cL 1 L M (J+1) N];rfl
          · simp (disch:=omega) only[K0,mI L M J N,bw]
        · refine .inl ⟨U,Z,?_,?_⟩
          · simp (disch:=omega) only[K0]
          · simp only[mH L J N,aa7,bw,decide_true,ae8,cond_false,aH,aw aE,ar,az,av]
      · obtain⟨b,D⟩:=lP D;obtain⟨t,F,an⟩:=jj F;unfold jK at D;unfold ud at F;rw[he] at D;refine .inr ⟨c,l,O,hc,?_,?_⟩
        · simp only[D,aa7];rfl
        · simp (disch:=omega) only[K0,F,an,iV (L,(J:Int),c,l,O) hc,bw]
    · simp only[dN c2,cond_false];by_cases c3:L.2.1[0]=tW
      · simp only[c3,dN (show¬tW=oX by decide),decide_true,cond_true,cond_false]
        rcases aoZ S Y he L M (0+1) h1 with⟨U,J,Z,ar,az,av,ah,D,F⟩ |⟨c,l,O,J,hc,ah,D,F⟩
        · unfold jK at D;unfold ud at F;rw[he] at D;simp only[D,F,aa7,sd,M9,gb];by_cases N:J<L.2.1.length
          · refine .inr ⟨1,L.1,aL L (J+1),by decide,?_,?_⟩
            · simp (disch:=omega) only[K0,cL 1 L M (J+1) N];rfl
            · simp (disch:=omega) only[K0,mI L M J N,bw]
          · refine .inl ⟨U,Z,?_,?_⟩
            · simp (disch:=omega) only[K0]
            · simp only[mH L J N,aa7,bw,decide_true,ae8,cond_false,aH,aw aE,ar,az,av]
        · obtain⟨b,D⟩:=lP D;obtain⟨t,F,an⟩:=jj F;unfold jK at D;unfold ud at F;rw[he] at D;refine .inr ⟨c,l,O,hc,?_,?_⟩
          · simp only[D,aa7];rfl
          · simp (disch:=omega) only[K0,F,an,iV (L,(J:Int),c,l,O) hc,bw]
      · simp only[dN c3,cond_false];by_cases c4:L.2.1[0]=oX
        · simp only[c4,decide_true,cond_true];rcases akN S Y he L M (0+1) h1 with⟨U,J,Z,ar,az,av,ah,D,F⟩ |⟨c,l,O,J,hc,ah,D,F⟩
          · unfold jK at D;unfold MO at F;rw[he] at D;simp only[D,F,aa7,sd,M9,gb];by_cases N:J<L.2.1.length
            · refine .inr ⟨1,L.1,aL L (J+1),by decide,?_,?_⟩
              · simp (disch:=omega) only[K0,cL 1 L M (J+1) N];rfl
              · simp (disch:=omega) only[K0,mI L M J N,bw]
            · refine .inl ⟨U,Z,?_,?_⟩
              · simp (disch:=omega) only[K0]
              · simp only[mH L J N,aa7,bw,decide_true,ae8,cond_false,aH,aw aE,ar,az,av]
          · obtain⟨b,D⟩:=lP D;obtain⟨t,F,an⟩:=jj F;unfold jK at D;unfold MO at F;rw[he] at D;refine .inr ⟨c,l,O,hc,?_,?_⟩
            · simp only[D,aa7];rfl
            · simp (disch:=omega) only[K0,F,an,iV (L,(J:Int),c,l,O) hc,bw]
        · have hc: ¬(1:Int)=0:=by decide
          have hf:=cL 1 L M (0+1) h1;have a1:=gF 1 L M (0+1) h1 (0,0) rfl;have f4:(cH S).length<=4:=(Y.cur he).iW;refine .inr ⟨1,L.1,aL L (0+1),by decide,?_,?_⟩
          · simp (disch:=omega) only[K0,hf];rfl
          · simp only[dN c4,cond_false,y7,dN c2,dN c3,iW S,ai (show aa .i64 (((cH S).length:Int) - 1) by exact bd (by omega)),a1,aa7,iV (L,((0+1:Nat):Int),1,L.1,aL L (0+1)) hc,bw,dN hc,am7,cond_true,decide_true]
theorem alz (F:Nat): ∀(n:Nat) (rest:List UInt8) (no:Nat) (out:List po) (c l D:Nat),rest.length<=n->gI F rest no out=.bad c l D->c=1\/c=2:=by
 intro n
 induction n with
 |zero=>grind[E2]
 |succ n J=>
  intro rest no out c l D M h;by_cases e:rest=[]
  · grind
  · by_cases hm:F<no
    · rw[KZ _ _ _ _ e hm] at h;cases h;exact .inr rfl
    · cases hs:nW (rest.take (ak dw rest 0)) with
      |bad c' L=>rw[Li _ _ _ _ e hm hs] at h;cases h;exact Rj _ _ _ _ _ _ _ (ab8 _) hs
      |ok ws cs=>rw[LQ _ _ _ _ e hm hs] at h;have h0:0<rest.length:=at0.2 e;exact J _ _ _ _ _ _ (by grind) h
theorem QH (s:List UInt8) (h:(iI s).2.1=0):(iI s).2=(0,0,0):=by
 unfold iI at h⊢;split
 · grind
 · rename_i g;rw[if_neg g] at h;cases e:gI 800 s 1 [] with
   |ok ls=>rfl
   |bad c l D=>rw[e] at h;have h:(c:Int)=0:=h;rcases alz 800 _ _ _ _ _ _ _ (ab8 _) e with g2 |g2<;>omega
theorem as8 (s:List UInt8) (h: ¬(iI s).2.1=0):(!((decide ((iI s).2.1=0)&&(decide ((iI s).2.2.1=0)&&decide ((iI s).2.2.2=0)))))=true:=by grind
def wV (S:ef):List UInt8×Bool×List nA×List UInt8×Int×Int×Int×List UInt8×Int×Int×Bool×List dC×List dC×Bool×List wY×List UInt8×List dC×Unit:=
 (S.src,S.em,S.l.map cZ,S.n,(aR S.v).1.1,(aR S.v).1.2.1,(aR S.v).1.2.2,(aR S.v).2,(dn S.d:Int),fT S.b,S.y,S.bs.map aO,S.ns.map aO,S.em1,S.fl.map ee,S.fn,S.fns.map aO,())
def wW (ls:List aQ) (S:ef):List aQ×List UInt8×Int×Int×Int×List UInt8×Bool×List bO×List UInt8×List UInt8×List UInt8×List UInt8×Bool×List al×List al×Bool×List fv×List UInt8×List al×Unit:=
 (ls,[],0,0,0,S.src,S.em,S.l,S.n,S.v,S.d,S.b,S.y,S.bs,S.ns,S.em1,S.fl,S.fn,S.fns,())
theorem aof (ls:List aQ) (an: ∀L∈ls,ct L/\1<=L.2.1.length) (hn:ls.length<=800): ∀(n i:Nat) (S:ef),ls.length - i=n->0<i->i<=ls.length->jT S->
  (∃F,jT F/\ab kP (lY ls i S)=some (.inl (wV F))/\ab kW (lQ ls i S)=some (.inl (wW ls F)))\/
  (∃c l M:Int,¬c=0/\mO (ab kP (lY ls i S)) (dt c l M)/\ab kW (lQ ls i S)=some (.inr ([],c,l,M,()))):=by
 intro n
 induction n with
 |zero=>
  intro i S Z h0 ah N;have e:i=ls.length:=by omega
  subst e;have D:kP (lY ls ls.length S)=some (.inr (.inl (wV S))):=by simp[lY,kP,wV,lQ,kW,wW]
  have J:kW (lQ ls ls.length S)=some (.inr (.inl (wW ls S))):=by simp[lQ,kW,wW]
  exact .inl ⟨S,N,bk D,bk J⟩
 |succ n ih=>
  intro i S Z h0 ah N;have O:i<ls.length:=by omega
  obtain⟨U,h1⟩:=an _ (ab7 O);rcases amQ ls i O h0 hn U h1 S N with⟨F,Y,D,J⟩ |⟨c,l,M,hc,D,J⟩
  · rw[aZ D,aZ J];exact ih (i+1) F (by omega) (by omega) (by omega) Y
  · obtain⟨b,D⟩:=A3 D;refine .inr ⟨c,l,M,hc,?_,?_⟩
    · rw[bJ,D];rfl
    · rw[bJ,J]
abbrev kI:=List UInt8×List bO
abbrev ae0:=List UInt8×List nA
def gT (x:kI):ae0:=(x.1,x.2.map cZ)
structure Gr (x:kI):Prop where
 src:dL x.1=true
 cV: ∀e∈x.2,dD e
 many:x.2.length<=60
 once:(x.2.map λe=>(e.1,e.2.1)).Nodup
theorem al4 (s:List UInt8):(∃x,Gr x/\zT s=some (x,(0,0,0))/\rM s=some (gT x,(0,0,0)))\/(∃c l J:Int,¬c=0/\zT s=some (([],[]),(c,l,J))/\rM s=some (([],[]),(c,l,J))):=by
 obtain⟨U,Y⟩:=Qn s;by_cases h0:(iI s).2.1=0
 · have Z:=QH s h0;have ah:=zm s;have an:=yY s;generalize iI s=R at U Y h0 Z ah an;obtain⟨ls,f⟩:=R;have Z:f=(0,0,0):=Z;subst Z;have U: ∀L∈ls,ct L/\1<=L.2.1.length:=U;have Y:ls.length<=800:=Y
   have hE:(∃F,jT F/\ab kP (lY ls 0 S0)=some (.inl (wV F))/\ab kW (lQ ls 0 S0)=some (.inl (wW ls F)))\/
     (∃c l J:Int,¬c=0/\mO (ab kP (lY ls 0 S0)) (dt c l J)/\ab kW (lQ ls 0 S0)=some (.inr ([],c,l,J,())))\/
     (ls=[]/\ab kP (lY ls 0 S0)=some (.inl (wV S0))/\ab kW (lQ ls 0 S0)=some (.inl (wW ls S0))):=by
    by_cases O:0<ls.length
    · obtain⟨hL,h1⟩:=U _ (ab7 O);rcases ali ls O Y hL h1 with⟨F,N,D,M⟩ |⟨c,l,J,hc,D,M⟩
      · rw[aZ D,aZ M];rcases aof ls U Y _ 1 F rfl (by decide) O N with h |h
        · exact .inl h
        · exact .inr (.inl h)
      · obtain⟨b,D⟩:=A3 D;refine .inr (.inl ⟨c,l,J,hc,?_,bk M⟩);rw[bk D];rfl
    · have e:ls=[]:=au1.1 (by omega)
      subst e;exact .inr (.inr ⟨rfl,bk rfl,bk rfl⟩)
   unfold zT rM Px;simp only[ah,an,aa7,decide_true,ae8,cond_false,aw2];have q1: ∀{a b},ab kP (lY ls 0 S0)=a->a=b->ab kP (ls,(ls.length:Int),0,[],true,[],[],0,0,0,[],0,0,false,[],[],true,[],[],[],())=b:=λh1 h2=>h2▸h1;have q2: ∀{a b},ab kW (lQ ls 0 S0)=a->a=b->ab kW (ls,0,[],0,0,0,[],true,[],[],[],[],[],false,[],[],true,[],[],[],())=b:=λh1 h2=>h2▸h1;rcases hE with⟨F,N,D,M⟩ |⟨c,l,J,hc,D,M⟩ |⟨e,D,M⟩
   · have O: ¬(ls.length:Int)=0:=by
       intro g;have:ls=[]:=au1.1 (by omega)
       subst this;have:=D.symm.trans (bk (f:=kP) (v:=lY [] 0 S0) (r:=.inl (wV S0)) rfl);injection this with this;injection this with this;have h9:F.src=[]:=congrArg Prod.fst this;exact R6 N.src h9
     refine .inl ⟨(F.src,ep F),⟨N.src,N.cV,N.many,N.once⟩,?_,?_⟩
     · rw[q2 M rfl];simp only[wW,aa7,dN O,cond_false];rfl
     · rw[q1 D rfl];simp only[wV,aa7,decide_true,aw2,ae8,cond_false,dN (R6 N.src),TO F,acK F];rfl
   · obtain⟨b,D⟩:=lP D;refine .inr ⟨c,l,J,hc,?_,?_⟩
     · rw[q2 M rfl];rfl
     · rw[q1 D rfl];obtain⟨b1,b2,b3,b4,b5,b6,b7,b8⟩:=b;have ar:rZ (dt c l J)=some (c,l,J):=rfl;simp only[aa7,ar,dN hc,av1,am7,cond_true]
   · subst e;refine .inr ⟨1,0,0,by decide,?_,?_⟩
     · rw[q2 M rfl];rfl
     · rw[q1 D rfl];rfl
 · grind[zT,rM,zm,yY]
structure bM (l:List al):Prop where
 many:l.length<=8
 dO: ∀n∈l,nY 4 n
def ln (ls:List aQ) (i:Nat) (b:Bool) (l:List al):List aQ×Int×Int×Bool×List dC×Unit:=(ls,(ls.length:Int),(i:Int),b,l.map aO,())
def lg (ls:List aQ) (i:Nat) (l:List al):List aQ×Int×Int×Int×Int×List al×Unit:=(ls,(i:Int),0,0,0,l,())
theorem aqw (ls:List aQ) (h0:0<ls.length) (hn:ls.length<=800) (D:ct ls[0]) (h1:1<=(ls[0]).2.1.length):
  (j4 (ln ls 0 false [])=some (.inl (ln ls 1 true []))/\j7 (lg ls 0 [])=some (.inl (lg ls 1 [])))\/
  (∃c l J:Int,¬c=0/\wZ (j4 (ln ls 0 false [])) (dt c l J)/\j7 (lg ls 0 [])=some (.inr (.inr (c,l,J,())))):=by
 have M: ∀{R:Type} (f:aQ->Option R),(ag ls ((0:Nat))).bind f=f ls[0]:=λf=>au (k:=0) h0 f;generalize ah:ls[0]=L at D h1 M;have U:fh (L,0)=_:=qz L D 0 h1;have Y:jg (L,0,0,0,0)=_:=qw L D 0 (0,0) h1;have Z:=D.2.1;unfold ln lg;simp only[j4,j7,dY (show(0:Nat)<(ls.length:Int) by omega),M,Y,dY (show((0:Nat):Int)=0 by rfl),dN (show¬0<((0:Nat):Int) by decide),cond_false,Jp,U,am7]
 by_cases O:L.2.1[0]=QL
 · simp (disch:=omega) only[K0,gb];by_cases F:0+1<L.2.1.length
   · refine .inr ⟨1,L.1,aL L (0+1+1),by decide,?_,?_⟩
     · simp (disch:=omega) only[K0,cL 1 L D (0+1+1) F];rfl
     · simp (disch:=omega) only[K0,mI L D (0+1) F,bw]
   · refine .inl ⟨?_,?_⟩
     · simp (disch:=omega) only[K0,bw]
     · simp only[mH L (0+1) F,aa7,bw,decide_true,ae8,cond_false]
 · have hc: ¬(1:Int)=0:=by decide
   have hf:=cL 1 L D (0+1) h1;have N:=gF 1 L D (0+1) h1 (0,0) rfl;refine .inr ⟨1,L.1,aL L (0+1),by decide,?_,?_⟩
   · simp (disch:=omega) only[K0,hf];rfl
   · simp only[dN O,am7,cond_true,N,aa7,iV (L,((0+1:Nat):Int),1,L.1,aL L (0+1)) hc,bw,dN hc]
theorem arA (ls:List aQ) (i:Nat) (hi:i<ls.length) (h0:0<i) (hn:ls.length<=800) (D:ct ls[i]) (h1:1<=(ls[i]).2.1.length) (l:List al) (hl:bM l):
  (∃U,bM U/\j4 (ln ls i true l)=some (.inl (ln ls (i+1) true U))/\j7 (lg ls i l)=some (.inl (lg ls (i+1) U)))\/
  (∃c li N:Int,¬c=0/\wZ (j4 (ln ls i true l)) (dt c li N)/\j7 (lg ls i l)=some (.inr (.inr (c,li,N,())))):=by
 have Z: ∀{R:Type} (f:aQ->Option R),(ag ls (i:Int)).bind f=f ls[i]:=λf=>au hi f;generalize a1:ls[i]=L at D h1 Z;have av:fh (L,0)=_:=qz L D 0 h1;have az:jg (L,0,0,0,0)=_:=qw L D 0 (0,0) h1;have aE:=D.2.1;have h8:=hl.many;have Y:i+1<=4611686018427387904:=by omega
 unfold ln lg;simp only[j4,j7,dY (show(i:Int)<(ls.length:Int) by omega),cond_true,Z,az,aa7,dN (show¬(i:Int)=0 by omega),cond_false,dY (show(0:Int)<(i:Int) by omega),Jp,av,ae8]
 by_cases c1:L.2.1[0]=TA
 · simp only[dY c1,ae8,cond_false,ae2,mD _ _ L D (0+1) h1,aa7];by_cases c8:l.length=8
   · have hc: ¬(2:Int)=0:=by decide
     refine .inr ⟨2,L.1,aL L (0+1),by decide,?_,?_⟩
     · simp only[dY (show(l.length:Int)=8 by omega),cond_true,cL 2 L D (0+1) h1,aa7];rfl
     · simp only[if_pos (show(8:Int)<=(l.length:Int) by omega),wm _ (L,((0+1:Nat):Int),2,L.1,aL L (0+1)) hc,aa7]
       rw[ai (by simp only[af2,as5];omega)]
       simp only[iV (L,((0+1:Nat):Int),2,L.1,aL L (0+1)) hc,aa7,bw,dN hc,am7,cond_true]
   · simp only[dN (show¬(l.length:Int)=8 by omega),cond_false,if_neg (show¬(8:Int)<=(l.length:Int) by omega)]
     rcases MW 4 (by decide) L (0+1) D h1 with⟨n,F,an,ar,M,J⟩ |⟨c,li,N,F,n,hc,an,M,J⟩
     · have M:jF 4 (L,((0+1:Nat):Int))=_:=M;have J:fy 4 (L,((0+1:Nat):Int),0,0,0)=_:=J;simp only[M,J,aa7];rw[ai (show l.length+[n].length<=1000000000 by simp only[af2,as5];omega),ai (show l.length+[aO n].length<=1000000000 by simp only[af2,as5];omega)]
       simp only[gb,aa7];by_cases O:F<L.2.1.length
       · refine .inr ⟨1,L.1,aL L (F+1),by decide,?_,?_⟩
         · simp only[dY O,cond_true,aH,aw (show F+1<=4611686018427387904 by omega),cL 1 L D (F+1) O,aa7];rfl
         · simp only[mI L D F O,aa7,bw,dN (show¬(1:Int)=0 by decide),am7,cond_true]
       · refine .inl ⟨l++[n],⟨by simp;omega,kZ hl.dO ar⟩,?_,?_⟩
         · simp only[dN O,cond_false,aH,aw Y,ag9];rfl
         · simp only[mH L F O,aa7,bw,decide_true,ae8,cond_false,aH,aw Y]
     · have M:jF 4 (L,((0+1:Nat):Int))=_:=M;have J:fy 4 (L,((0+1:Nat):Int),0,0,0)=_:=J;refine .inr ⟨c,li,N,hc,?_,?_⟩
       · simp only[M,aa7];rfl
       · simp only[J,aa7];rw[ai (by simp only[af2,as5];omega)]
         simp only[iV (L,(F:Int),c,li,N) hc,aa7,bw,dN hc,am7,cond_true]
 · have hc: ¬(1:Int)=0:=by decide
   have hf:=cL 1 L D (0+1) h1;have ah:=gF 1 L D (0+1) h1 (0,0) rfl;refine .inr ⟨1,L.1,aL L (0+1),by decide,?_,?_⟩
   · simp only[dN c1,am7,cond_true,hf,aa7];rfl
   · simp only[dN c1,am7,cond_true,ah,aa7,Fs _ _ (L,((0+1:Nat):Int),1,L.1,aL L (0+1)) hc,wm _ (L,((0+1:Nat):Int),1,L.1,aL L (0+1)) hc];rw[ai (by simp only[af2,as5];omega)]
     simp only[iV (L,((0+1:Nat):Int),1,L.1,aL L (0+1)) hc,aa7,bw,dN hc,am7,cond_true]
theorem ase (ls:List aQ) (an: ∀L∈ls,ct L/\1<=L.2.1.length) (hn:ls.length<=800): ∀(n i:Nat) (l:List al),ls.length - i=n->0<i->i<=ls.length->bM l->
  (∃J,bM J/\ab j4 (ln ls i true l)=some (.inl (true,J.map aO,()))/\ab j7 (lg ls i l)=some (.inl (ls,0,0,0,J,())))\/
  (∃c li M:Int,¬c=0/\mO (ab j4 (ln ls i true l)) (dt c li M)/\ab j7 (lg ls i l)=some (.inr (c,li,M,()))):=by
 intro n
 induction n with
 |zero=>
  intro i l Y h0 Z N;have e:i=ls.length:=by omega
  subst e;have D:j4 (ln ls ls.length true l)=some (.inr (.inl (true,l.map aO,()))):=by simp[ln,j4]
  have F:j7 (lg ls ls.length l)=some (.inr (.inl (ls,0,0,0,l,()))):=by simp[lg,j7]
  exact .inl ⟨l,N,bk D,bk F⟩
 |succ n ih=>
  intro i l Y h0 Z N;have O:i<ls.length:=by omega
  obtain⟨U,h1⟩:=an _ (ab7 O);rcases arA ls i O h0 hn U h1 l N with⟨J,ah,D,F⟩ |⟨c,li,M,hc,D,F⟩
  · rw[aZ D,aZ F];exact ih (i+1) J (by omega) (by simp) (by omega) ah
  · obtain⟨b,D⟩:=A3 D;refine .inr ⟨c,li,M,hc,?_,bk F⟩;rw[bk D];rfl
theorem WT (s:List UInt8):(∃l,bM l/\zR s=some (l,(0,0,0))/\yS s=some (l.map aO,(0,0,0)))\/(∃c li D:Int,¬c=0/\zR s=some ([],(c,li,D))/\yS s=some ([],(c,li,D))):=by
 obtain⟨O,U⟩:=Qn s;by_cases h0:(iI s).2.1=0
 · have Y:=QH s h0;have Z:=zm s;have ah:=yY s;generalize iI s=R at O U h0 Y Z ah;obtain⟨ls,f⟩:=R;have Y:f=(0,0,0):=Y;subst Y;have O: ∀L∈ls,ct L/\1<=L.2.1.length:=O;have U:ls.length<=800:=U
   have hE:(∃J,bM J/\0<ls.length/\ab j4 (ln ls 0 false [])=some (.inl (true,J.map aO,()))/\ab j7 (lg ls 0 [])=some (.inl (ls,0,0,0,J,())))\/
     (∃c li D:Int,¬c=0/\mO (ab j4 (ln ls 0 false [])) (dt c li D)/\ab j7 (lg ls 0 [])=some (.inr (c,li,D,())))\/ls=[]:=by
    by_cases N:0<ls.length
    · obtain⟨hL,h1⟩:=O _ (ab7 N);rcases aqw ls N U hL h1 with⟨F,M⟩ |⟨c,l,D,hc,F,M⟩
      · rw[aZ F,aZ M];rcases ase ls O U _ 1 [] rfl (by omega) N ⟨ae3 _,λn h=>by cases h⟩ with⟨J,h1,h2,h3⟩ |h
        · exact .inl ⟨J,h1,N,h2,h3⟩
        · exact .inr (.inl h)
      · obtain⟨b,F⟩:=A3 F;refine .inr (.inl ⟨c,l,D,hc,?_,bk M⟩);rw[bk F];rfl
    · exact .inr (.inr (au1.1 (by omega)))
   unfold zR yS Pq;simp only[Z,ah,aa7,decide_true,ae8,aw2];have q1: ∀{a},ab j4 (ln ls 0 false [])=a->ab j4 (ls,ls.length,0,false,[],())=a:=λh=>h;have q2: ∀{a},ab j7 (lg ls 0 [])=a->ab j7 (ls,0,0,0,0,[],())=a:=λh=>h;rcases hE with⟨J,ar,N,F,M⟩ |⟨c,l,D,hc,F,M⟩ |e
   · grind
   · obtain⟨b,F⟩:=lP F;refine .inr ⟨c,l,D,hc,?_,?_⟩
     · grind
     · rw[q1 F];obtain⟨b1,b2,b3⟩:=b;have an:rZ (dt c l D)=some (c,l,D):=rfl;simp only[aa7,an,dN hc,av1,am7,cond_true,cond_false]
   · subst e;refine .inr ⟨1,0,0,by decide,?_,?_⟩
     · rw[show ab j7 ([],0,0,0,0,[],())=some (.inl ([],0,0,0,[],())) from bk rfl];rfl
     · rw[show ab j4 ([],([].length),0,false,[],())=some (.inl (false,[],())) from bk rfl];rfl
 · grind[zR,yS,zm,yY]
end
end Go.Proofs.YtejhifnjgoclpaaGreatDoor.Fx
