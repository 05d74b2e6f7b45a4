/- Parts of the proofs, put together by a program. -/
import Derived.Test.YtejhifnjgoclpaaGreatDoorE11
import Derived.Laws.BitsAllLaws
set_option linter.unusedVariables false
set_option linter.unusedSimpArgs false
open Option renaming bind_some->aa7,map_some->at5,bind_eq_some_iff->at8
open List renaming getElem_mem->ab7,length_map->ae2,getElem?_eq_getElem->ae6,length_append->ae7,length_cons->af2,append_nil->ag5,map_append->ag9,mem_singleton->ah3,mem_cons->ai3,drop_eq_getElem_cons->ak7,mem_cons_self->am5,length_take->am9,all_eq_true->ao3,mem_map->ar1,getElem_map->ar7,take_append_drop->as0,take_length->as1,append_assoc->as2,mem_cons_of_mem->as3,length_nil->as5,length_pos_iff->at0,all_cons->at1,getElem_of_mem->at2,length_drop->at6,take_succ_eq_append_getElem->at7,not_mem_nil->at9,drop_length->au0,drop_zero->au3,map_map->au4,foldl_cons->au9,length_set->av0,map_congr_left->av9,pairwise_iff_getElem->aw8
open Nat renaming le_refl->ab8,zero_le->ae3,le_trans->an4,lt_of_lt_of_le->au5,lt_trichotomy->ax0
open Bool renaming and_eq_true->ad0,not_true->ae8,false_eq_true->af7,not_false->am7,or_eq_true->at3,true_and->at4,eq_false_or_eq_true->au7,false_and->av1,and_false->av7,and_self->aw2
open Int renaming toNat_natCast->ae9,lt_irrefl->ak0
namespace Go.Proofs.YtejhifnjgoclpaaGreatDoor.Fx
open Go.RowKit
set_option maxRecDepth 1000000
noncomputable section
theorem X8 (b:Nat) (h:b<18446744073709551616):bits .and .u64 ((b:Int).fdiv (2 ^(min (52:Int).toNat (IntKind.bits .u64)))) 2047=((b/4503599627370496 %2048:Nat):Int)/\bits .and .u64 (b:Int) 4503599627370495=((b %4503599627370496:Nat):Int)/\(b:Int).fdiv (2 ^(min (63:Int).toNat (IntKind.bits .u64)))=((b/9223372036854775808:Nat):Int):=by
 have D:(2:Int) ^(min (52:Int).toNat (IntKind.bits .u64))=4503599627370496:=by rfl
 rw[D];have f1:(b:Int).fdiv 4503599627370496=(b/4503599627370496:Nat):=by rw[Int.fdiv_eq_ediv_of_nonneg _ (by simp)];omega
 have f2:(b:Int).fdiv 9223372036854775808=(b/9223372036854775808):=by grind
 refine⟨?_,?_,f2⟩
 · rw[f1,u64_and _ _ (by omega) (by omega) (by simp) (by simp)]
   exact congrArg _ (Nat.and_two_pow_sub_one_eq_mod _ 11)
 · rw[u64_and _ _ (by simp) (by omega) (by simp) (by simp)]
   exact congrArg _ (Nat.and_two_pow_sub_one_eq_mod _ 52)
theorem Xq (b:Nat) (h:b<18446744073709551616): ∃k,FF (b:Int)=some k/\(k=0<->qX b=true):=by
 obtain⟨h1,h2,J⟩:=X8 b h;have L:qX b=true<->(((b/4503599627370496 %2048:Nat):Int)=2047/\ ¬((b %4503599627370496:Nat):Int)=0):=by unfold qX;simp only[ad0,decide_eq_true_eq,Bool.not_eq_true',decide_eq_false_iff_not];omega
 rw[L];unfold FF;rw[ai (by decide),ai (by decide)]
 simp only[h1,h2,J];generalize((b/4503599627370496 %2048:Nat):Int)=p;generalize((b %4503599627370496:Nat):Int)=r;generalize((b/9223372036854775808:Nat):Int)=s;by_cases c1:p=2047
 · subst c1;by_cases c2:r=0
   · by_cases D:s=1
     · simp_all
     · simp_all
   · simp_all
 · by_cases F:p=0
   · by_cases c2:r=0
     · by_cases D:s=1
       · simp_all
       · simp only[dN c1,dY c2,dN D,dY F,cond_true,cond_false];exact⟨_,rfl,by simp [c1]⟩
     · by_cases D:s=1
       · simp_all
       · simp only[dN c1,dN c2,dN D,dY F,cond_true,cond_false];exact⟨_,rfl,by simp [c1]⟩
   · by_cases D:s=1
     · simp_all
     · simp only[dN c1,dN D,dN F,cond_true,cond_false];exact⟨_,rfl,by simp [c1]⟩
theorem aqq (b:Nat) (h:b<18446744073709551616):bits .xor .u64 IntKind.u64.max (b:Int)=((18446744073709551615 - b:Nat):Int):=by
 have D:IntKind.u64.max=(18446744073709551615:Nat):=by rfl
 rw[D,u64_xor_nat _ _ (by simp) h]
 congr 1;apply Nat.eq_of_testBit_eq;intro i;have F:18446744073709551615=2 ^64 - 1:=by decide
 rw[Nat.testBit_xor,F,Nat.testBit_two_pow_sub_one,show 2 ^64 - 1 - b=2 ^64 - (b+1) from by omega,Nat.testBit_two_pow_sub_succ (by omega)]
 by_cases J:i<64
 · grind
 · have:b.testBit i=false:=Nat.testBit_lt_two_pow (au5 h (show 2 ^64<=2 ^i from Nat.pow_le_pow_right (by simp) (by omega)))
   grind
theorem XZ (b:Nat) (h:b<18446744073709551616):FW (b:Int)=some ((fj b:Nat):Int):=by
 obtain⟨k,h1,h2⟩:=Xq b h;obtain⟨_,_,D⟩:=X8 b h;unfold FW fj;rw[h1,aa7];cases J:qX b with
 |true=>grind
 |false=>
  rw[dN (by grind)]
  simp (disch:=omega) only[K0,D,Nat.or_comm];by_cases c:9223372036854775808<=b
  · rw[dY (show((b/9223372036854775808:Nat):Int)=1 by omega),if_pos c]
    simp only[cond_true];exact congrArg some (aqq b h)
  · rw[dN (show¬((b/9223372036854775808:Nat):Int)=1 by omega)]
    simp only[cond_false];rw[u64_or _ _ (by simp) (by omega) (by simp) (by simp)]
    have F:b|||1<<<63=1<<<63+b:=by rw[Nat.or_comm,Nat.shiftLeft_add_eq_or_of_lt (by omega)]
    grind
def jR (a b:Nat):Int:=if fj a<fj b then-1 else if fj b<fj a then 1 else 0
theorem aio (a b:Nat) (D:a<18446744073709551616) (F:b<18446744073709551616):KF (a:Int) (b:Int)=some (jR a b):=by
 unfold KF jR;simp (disch:=omega) only[XZ a D,XZ b F];by_cases c1:fj a<fj b
 · grind
 · grind
def xf (b:Nat):List UInt8:=(List.range 16).map λi=>uF (b/16 ^(15 - i)%16)
def Bd (b:Nat):List UInt8:=if qX b=true then Wl else xf b
theorem alJ (b:Nat) (h:b<18446744073709551616):Aw (b:Int)=some (xf b):=by grind[Aw,xf]
theorem Xp (b:Nat) (h:b<18446744073709551616):Ae (b:Int)=some (Bd b):=by
 obtain⟨k,h1,h2⟩:=Xq b h;have D:=alJ b h;unfold Ae Bd;simp (disch:=omega) only[h1];cases F:qX b with
 |true=>grind
 |false=>grind
theorem FY (s:List UInt8) (h:s.length<=16) (D:s.all eL=true):dn s<18446744073709551616:=by
 have: ∀(s:List UInt8) n,s.all eL=true->s.foldl de n<(n+1)*16 ^s.length:=by
  intro s
  induction s with
  |nil=>grind
  |cons c t F=>intro n D;rw[at1,ad0] at D;have h1:=F (de n c) D.2;have h2:gM c.toNat<16:=of_decide_eq_true D.1;show t.foldl de (de n c)<_;refine au5 h1 ?_;rw[af2,Nat.pow_succ,Nat.mul_comm (16 ^t.length) 16,<-Nat.mul_assoc];exact Nat.mul_le_mul_right _ (by unfold de;omega)
 have h1:=this s 0 D;rw[Tj];refine au5 h1 ?_;have:(0+1)*16 ^s.length<=1*16 ^16:=Nat.mul_le_mul_left _ (Nat.pow_le_pow_right (by simp) h)
 omega
theorem tH {V R α β:Type} {f:V->Option (V⊕R)} (l:List α) (e:α->List β) (st:Nat->List β->V) (out:List β->R)
  (h1: ∀k (hk:k<l.length),f (st k ((l.take k).flatMap e))=some (.inl (st (k+1) ((l.take k).flatMap e++e l[k]))))
  (h2:f (st l.length (l.flatMap e))=some (.inr (out (l.flatMap e)))):ab f (st 0 [])=some (out (l.flatMap e)):=by
 have: ∀n k,l.length - k=n->k<=l.length->ab f (st k ((l.take k).flatMap e))=some (out (l.flatMap e)):=by
  intro n
  induction n with
  |zero=>
   intro k J hk;have D:k=l.length:=by omega
   subst D;rw[as1];exact bk h2
  |succ n L=>
   intro k J hk;have F:k<l.length:=by omega
   rw[aZ (h1 k F)];have D:(l.take (k+1)).flatMap e=(l.take k).flatMap e++e l[k]:=by rw[at7 F,List.flatMap_append];simp
   grind
 exact this _ 0 rfl (ae3 _)
theorem qt {V R α β:Type} {f:V->Option (V⊕R)} (l:List α) (h:α->β) (st:Nat->List β->V) (out:List β->R)
  (h1: ∀k (hk:k<l.length) (acc:List β),acc.length=k->f (st k acc)=some (.inl (st (k+1) (acc++[h l[k]]))))
  (h2:f (st l.length (l.map h))=some (.inr (out (l.map h)))):ab f (st 0 [])=some (out (l.map h)):=by
 have: ∀n k,l.length - k=n->k<=l.length->ab f (st k ((l.take k).map h))=some (out (l.map h)):=by
  intro n
  induction n with
  |zero=>
   intro k J hk;have D:k=l.length:=by omega
   subst D;rw[as1];exact bk h2
  |succ n L=>
   intro k J hk;have F:k<l.length:=by omega
   rw[aZ (h1 k F ((l.take k).map h) (by grind))]
   have D:(l.take (k+1)).map h=(l.take k).map h++[h l[k]]:=by rw[at7 F,ag9];rfl
   grind
 exact this _ 0 rfl (ae3 _)
theorem Ao {α:Type} (l:List α) (p:α->Bool) (i:Decidable (bG l p<0)): @decide (bG l p<0) i= !l.any p:=by
 rcases kX l p with⟨h1,h2⟩ |⟨k,_,_,h2,_,h1⟩
 · grind
 · grind
theorem vU {α:Type} (l:List α) (f:α->List UInt8) (s:List UInt8):(l.any λx=>decide (f x=s))=cw (l.map f) s:=by grind[cw]
theorem SM (l:List (List UInt8)) (v:List UInt8) (D:l.length<=1000000):nJ l v=some (bG l λx=>decide (x=v)):=by
 have h:=iT (f:=oP) l (λx=>decide (x=v)) (λk=>(l,v,l.length,k,())) (λk=>Sum.inr (k,())) (Sum.inl ()) (λk h hp=>by
  have hp: ¬v=l[k]:=λe=>of_decide_eq_false hp e.symm;simp (disch:=omega) only[K0,oP]) (λk h hp=>by
  have hp:=(of_decide_eq_true hp).symm;simp (disch:=omega) only[K0,oP]) (by
  simp[oP])
 grind[nJ,bG]
theorem Xd (l:List Int) (v:Int) (D:l.length<=1000000):yl l v=some (l.any λx=>decide (x=v)):=by
 have h:=iT (f:=CP) l (λx=>decide (x=v)) (λk=>(l,v,l.length,k,())) (λk=>Sum.inr (k,())) (Sum.inl ()) (λk h hp=>by
  have hp: ¬v=l[k]:=λe=>of_decide_eq_false hp e.symm;simp (disch:=omega) only[K0,CP]) (λk h hp=>by
  have hp:=(of_decide_eq_true hp).symm;simp (disch:=omega) only[K0,CP]) (by
  simp[CP])
 simp_all[yl,PH];rw[<-o9 l (λx=>decide (x=v)) inferInstance];unfold bG;cases l.findIdx? (λx=>decide (x=v))<;>rfl
theorem Qj (l:List (List UInt8×Nat×Bool)) (s:List UInt8) (D:l.length<=1000000):yd l s=some (bG l λx=>decide (x.1=s)):=by
 have h:=iT (f:=CA) l (λx=>decide (x.1=s)) (λk=>(l,l.length,k,s,())) (λk=>Sum.inr (k,s,())) (Sum.inl (s,())) (λk h hp=>by
  have hp:=of_decide_eq_false hp;simp (disch:=omega) only[K0,CA,IM,Jt]) (λk h hp=>by
  have hp:=of_decide_eq_true hp;simp (disch:=omega) only[K0,CA,IM,Jt]) (by
  simp[CA])
 unfold yd O1 bG;grind
theorem aiJ (l:List (List UInt8×Nat×Bool)) (s:List UInt8) (F:l.length<=1000000) (L:aQ) (D:ct L) (k:Nat) (hk:k<=L.2.1.length):
  Iw s (L,(k:Int)) l=some (if cw (l.map (·.1)) s=true then .inr (dt 3 L.1 (aL L k),l,()) else .inl (s,(L,(k:Int)),l,())):=by
 unfold Iw;simp[Qj l s F,o9,vU];cases cw (l.map (·.1)) s with
 |true=>simp[cL 3 L D k hk]
 |false=>rfl
theorem aka (l:List (List UInt8×Nat×Bool)) (m:Nat) (L:aQ) (D:ct L) (k:Nat) (hk:k<=L.2.1.length):
  C6 (m:Int) (L,(k:Int)) l=some (if l.length=m then .inr (dt 2 L.1 (aL L k),l,()) else .inl ((L,(k:Int)),l,())):=by
 unfold C6;by_cases h:l.length=m
 · simp (disch:=omega) only[K0,cL 2 L D k hk]
 · grind
theorem akz (l:List (List UInt8×Int×List (List UInt8))) (s:List UInt8) (D:l.length<=1000000):Iz l s=some (bG l λx=>decide (x.1=s)):=by
 have h:=iT (f:=CC) l (λx=>decide (x.1=s)) (λk=>(l,l.length,k,s,())) (λk=>Sum.inr (k,s,())) (Sum.inl (s,())) (λk h hp=>by
  have hp:=of_decide_eq_false hp;simp (disch:=omega) only[K0,CC,IN,JG]) (λk h hp=>by
  have hp:=of_decide_eq_true hp;simp (disch:=omega) only[K0,CC,IN,JG]) (by
  simp[CC])
 unfold Iz O3 bG;grind
theorem ajn (l:List (List UInt8×Int×List (List UInt8))) (s:List UInt8) (F:l.length<=1000000) (L:aQ) (D:ct L) (k:Nat) (hk:k<=L.2.1.length):
  Ix s (L,(k:Int)) l=some (if cw (l.map (·.1)) s=true then .inr (dt 3 L.1 (aL L k),l,()) else .inl (s,(L,(k:Int)),l,())):=by
 unfold Ix;simp[akz l s F,o9,vU];cases cw (l.map (·.1)) s with
 |true=>simp[cL 3 L D k hk]
 |false=>rfl
theorem aly (l:List (List UInt8×Int×List (List UInt8))) (m:Nat) (L:aQ) (D:ct L) (k:Nat) (hk:k<=L.2.1.length):
  Dh (m:Int) (L,(k:Int)) l=some (if l.length=m then .inr (dt 2 L.1 (aL L k),l,()) else .inl ((L,(k:Int)),l,())):=by
 unfold Dh;by_cases h:l.length=m
 · simp (disch:=omega) only[K0,cL 2 L D k hk]
 · grind
theorem YI (l:List (List UInt8×cP)) (s:List UInt8) (D:l.length<=1000000):yg l s=some (bG l λx=>decide (x.1=s)):=by
 have h:=iT (f:=CF) l (λx=>decide (x.1=s)) (λk=>(l,l.length,k,s,())) (λk=>Sum.inr (k,s,())) (Sum.inl (s,())) (λk h hp=>by
  have hp:=of_decide_eq_false hp;simp (disch:=omega) only[K0,CF,I0,J1]) (λk h hp=>by
  have hp:=of_decide_eq_true hp;simp (disch:=omega) only[K0,CF,I0,J1]) (by
  simp[CF])
 unfold yg Pg bG;grind
theorem ald (l:List (List UInt8×cP)) (s:List UInt8) (F:l.length<=1000000) (L:aQ) (D:ct L) (k:Nat) (hk:k<=L.2.1.length):
  ID s (L,(k:Int)) l=some (if cw (l.map (·.1)) s=true then .inr (dt 3 L.1 (aL L k),l,()) else .inl (s,(L,(k:Int)),l,())):=by
 unfold ID;simp[YI l s F,o9,vU];cases cw (l.map (·.1)) s with
 |true=>simp[cL 3 L D k hk]
 |false=>rfl
theorem aoD (l:List (List UInt8×cP)) (m:Nat) (L:aQ) (D:ct L) (k:Nat) (hk:k<=L.2.1.length):
  DA (m:Int) (L,(k:Int)) l=some (if l.length=m then .inr (dt 2 L.1 (aL L k),l,()) else .inl ((L,(k:Int)),l,())):=by
 unfold DA;by_cases h:l.length=m
 · simp (disch:=omega) only[K0,cL 2 L D k hk]
 · grind
theorem X1 (l:List (List UInt8×List Int)) (s:List UInt8) (D:l.length<=1000000):yf l s=some (bG l λx=>decide (x.1=s)):=by
 have h:=iT (f:=CD) l (λx=>decide (x.1=s)) (λk=>(l,l.length,k,s,())) (λk=>Sum.inr (k,s,())) (Sum.inl (s,())) (λk h hp=>by
  have hp:=of_decide_eq_false hp;simp (disch:=omega) only[K0,CD,IU,JR]) (λk h hp=>by
  have hp:=of_decide_eq_true hp;simp (disch:=omega) only[K0,CD,IU,JR]) (by
  simp[CD])
 unfold yf O' bG;grind
theorem aj1 (l:List (List UInt8×List Int)) (s:List UInt8) (F:l.length<=1000000) (L:aQ) (D:ct L) (k:Nat) (hk:k<=L.2.1.length):
  IB s (L,(k:Int)) l=some (if cw (l.map (·.1)) s=true then .inr (dt 3 L.1 (aL L k),l,()) else .inl (s,(L,(k:Int)),l,())):=by
 unfold IB;simp[X1 l s F,o9,vU];cases cw (l.map (·.1)) s with
 |true=>simp[cL 3 L D k hk]
 |false=>rfl
theorem am4 (l:List (List UInt8×List Int)) (m:Nat) (L:aQ) (D:ct L) (k:Nat) (hk:k<=L.2.1.length):
  Dr (m:Int) (L,(k:Int)) l=some (if l.length=m then .inr (dt 2 L.1 (aL L k),l,()) else .inl ((L,(k:Int)),l,())):=by
 unfold Dr;by_cases h:l.length=m
 · simp (disch:=omega) only[K0,cL 2 L D k hk]
 · grind
theorem W7 (l:List (List UInt8×Int)) (s:List UInt8) (D:l.length<=1000000):yc l s=some (bG l λx=>decide (x.1=s)):=by
 have h:=iT (f:=Cz) l (λx=>decide (x.1=s)) (λk=>(l,l.length,k,s,())) (λk=>Sum.inr (k,s,())) (Sum.inl (s,())) (λk h hp=>by
  have hp:=of_decide_eq_false hp;simp (disch:=omega) only[K0,Cz,IL,Js]) (λk h hp=>by
  have hp:=of_decide_eq_true hp;simp (disch:=omega) only[K0,Cz,IL,Js]) (by
  simp[Cz])
 unfold yc O0 bG;grind
theorem aiI (l:List (List UInt8×Int)) (s:List UInt8) (F:l.length<=1000000) (L:aQ) (D:ct L) (k:Nat) (hk:k<=L.2.1.length):
  Iv s (L,(k:Int)) l=some (if cw (l.map (·.1)) s=true then .inr (dt 3 L.1 (aL L k),l,()) else .inl (s,(L,(k:Int)),l,())):=by
 unfold Iv;simp[W7 l s F,o9,vU];cases cw (l.map (·.1)) s with
 |true=>simp[cL 3 L D k hk]
 |false=>rfl
theorem aj9 (l:List (List UInt8×Int)) (m:Nat) (L:aQ) (D:ct L) (k:Nat) (hk:k<=L.2.1.length):
  C5 (m:Int) (L,(k:Int)) l=some (if l.length=m then .inr (dt 2 L.1 (aL L k),l,()) else .inl ((L,(k:Int)),l,())):=by
 unfold C5;by_cases h:l.length=m
 · simp (disch:=omega) only[K0,cL 2 L D k hk]
 · grind
theorem akb (l:List Int) (m:Nat) (L:aQ) (D:ct L) (k:Nat) (hk:k<=L.2.1.length):
  C7 (m:Int) (L,(k:Int)) l=some (if l.length=m then .inr (dt 2 L.1 (aL L k),l,()) else .inl ((L,(k:Int)),l,())):=by
 unfold C7;by_cases h:l.length=m
 · simp (disch:=omega) only[K0,cL 2 L D k hk]
 · grind
theorem agQ (l:List (List UInt8×List UInt8×List UInt8)) (D:List (List UInt8×List UInt8×List (List UInt8))) (F:List (List UInt8×List UInt8)) (J:List (List UInt8×List (List UInt8))) (L:List (List UInt8×List UInt8)) (N:l.length<=1000):JD l D F J L=some (l.map (·.1),l,D,F,J,L):=by
 have h:=qt (f:=Jl) l (λx=>x.1) (λk acc=>(k,acc,l,D,F,J,L,())) (λacc=>(acc,l,D,F,J,L,())) (λk hk acc M=>by
  simp[Jl];simp (disch:=omega) only[K0]) (by
  simp[Jl])
 grind[JD]
theorem agR (l:List (List UInt8×List UInt8×List UInt8)) (D:List (List UInt8×List UInt8×List (List UInt8))) (F:List (List UInt8×List UInt8)) (J:List (List UInt8×List (List UInt8))) (L:List (List UInt8×List UInt8)) (N:D.length<=1000):JE l D F J L=some (D.map (·.1),l,D,F,J,L):=by
 have h:=qt (f:=Jm) D (λx=>x.1) (λk acc=>(k,acc,l,D,F,J,L,())) (λacc=>(acc,l,D,F,J,L,())) (λk hk acc M=>by
  simp[Jm];simp (disch:=omega) only[K0]) (by
  simp[Jm])
 grind[JE]
theorem WK (l:List (List UInt8×List UInt8)) (F:l.length<=1000):ED l=some (l.map (·.1),l):=by
 have h:=qt (f:=Ki) l (λx=>x.1) (λk acc=>(k,acc,l,())) (λacc=>(acc,l,())) (λk hk acc D=>by
  simp[Ki];simp (disch:=omega) only[K0]) (by
  simp[Ki])
 grind[ED]
theorem ajy (l:List (List UInt8×List (List UInt8))) (F:l.length<=1000):Lq l=some (l.map (·.1),l):=by
 have h:=qt (f:=KB) l (λx=>x.1) (λk acc=>(k,acc,l,())) (λacc=>(acc,l,())) (λk hk acc D=>by
  simp[KB];simp (disch:=omega) only[K0]) (by
  simp[KB])
 grind[Lq]
theorem fp {R:Type} {k:Option R}:J True k=k:=rfl
theorem Ml (l:List (List UInt8)) (o:gK) (h: ¬o.2.2.1=0):k6 l o=some ([],o):=by unfold k6;simp (disch:=omega) only[K0,Zs o h,bw]
theorem Fi (kind:Int) (l:List (List UInt8)) (o:gK) (h: ¬o.2.2.1=0):j8 kind l o=some ([],o):=by unfold j8;simp (disch:=omega) only[K0,iS kind o h,bw]
def Vz {β:Type} (T:aQ×Int->Option ((β×(aQ×Int)×Unit)⊕(Value×Unit))) (l:List (List UInt8)) (val:List UInt8->β):Prop:=
 ∀(L:aQ) (k:Nat),ct L->k<=L.2.1.length->
  (∃h:k<L.2.1.length,L.2.1[k]∈l/\T (L,(k:Int))=some (.inl (val (L.2.1[k]),(L,((k+1:Nat):Int)),()))/\k6 l (L,(k:Int),0,0,0)=some (L.2.1[k],(L,((k+1:Nat):Int),0,0,0)))\/
  (∃(c li D:Int) (F:Nat) (w:List UInt8),¬c=0/\F<=L.2.1.length/\T (L,(k:Int))=some (.inr (dt c li D,()))/\k6 l (L,(k:Int),0,0,0)=some (w,(L,(F:Int),c,li,D)))
theorem ac1 {β:Type} {T:aQ×Int->Option ((β×(aQ×Int)×Unit)⊕(Value×Unit))} {l:List (List UInt8)} {val:List UInt8->β} (P:List UInt8->Option (β×Bool))
  (hT: ∀o,T o=(fh o).bind (λU=>match U with
   |.inl (w,o',_)=>(P w).bind λr=>bif !r.2 then(cr 1 o').bind (λ(J,_)=>some (.inr (J,()))) else some (.inl (r.1,o',()))
   |.inr (J,_)=>some (.inr (J,()))))
  (Y:l.length<=1000) (N: ∀w,∃x,P w=some (x,cw l w)/\(w∈l->x=val w)):Vz T l val:=by
 intro L k D hk;by_cases h:k<L.2.1.length
 · obtain⟨x,O,Z⟩:=N (L.2.1[k]);have M:=qp l (L.2.1[k]) (by omega)
   cases F:cw l (L.2.1[k]) with
   |true=>
    have hm:=(qD _ _).1 F;refine .inl ⟨h,hm,?_,?_⟩
    · rw[hT,qz L D k h];grind
    · unfold k6;simp[qw L D k _ h,bw,M,F]
   |false=>
    refine .inr ⟨1,L.1,aL L (k+1),k+1,L.2.1[k],by decide,h,?_,?_⟩
    · rw[hT,qz L D k h];simp (disch:=omega) only[K0,O,F,cL 1 L D (k+1) h]
    · unfold k6;simp only[qw L D k _ h,aa7,bw,decide_true,cond_true,M,F,am7,gF 1 L D (k+1) h _ rfl]
 · refine .inr ⟨1,L.1,0,k,[],by decide,hk,?_,?_⟩
   · rw[hT,abP L k h,aa7]
   · unfold k6;simp (disch:=omega) only[K0,aaV L k _ h,bw]
theorem are:oj Po 6 ir dn:=qN zg (λo=>rfl) (λw hw=>by
 unfold zg ir;show∃x,(if w.length=16/\w.all eL=true then some (dn w,true) else some (0,false))=some (x,decide (w.length=16)&&w.all eL)/\_
 by_cases h:w.length=16/\w.all eL=true
 · simp_all
 · rw[if_neg h];cases h1:decide (w.length=16)&&w.all eL with
   |true=>grind
   |false=>exact⟨_,rfl,λh=>by cases h⟩) (λw hw=>aco w)
def AI:List (List UInt8):=[jJ,wa]
def tX:List (List UInt8):=[iF,pe,hW]
def Gj (k:List UInt8):Int:=if k=pe then 1 else if k=hW then 2 else 0
theorem arZ:Vz Pu AI (λw=>decide (w=jJ)):=ac1 KH (λo=>rfl) (by decide) (λw=>by
 unfold KH;by_cases h:w=jJ
 · subst h;exact⟨_,rfl,λ_=>rfl⟩
 · rw[dN h];by_cases h2:w=wa
   · subst h2;exact⟨_,rfl,λ_=>rfl⟩
   · refine⟨false,?_,λhm=>?_⟩
     · have:cw AI w=false:=by
         cases e:cw AI w with
         |false=>rfl
         |true=>have:=(qD _ _).1 e;simp[AI,h,h2] at this
       grind
     · simp[AI,h,h2] at hm)
theorem ar0:Vz Py tX Gj:=ac1 KI (λo=>rfl) (by decide) (λw=>by
 unfold KI;rw[show nJ [iF,pe,hW] w=_ from SM tX w (by decide)]
 by_cases h1:w=iF
 · subst h1;exact⟨_,rfl,λ_=>rfl⟩
 · by_cases h2:w=pe
   · subst h2;exact⟨_,rfl,λ_=>rfl⟩
   · by_cases D:w=hW
     · subst D;exact⟨_,rfl,λ_=>rfl⟩
     · refine⟨(if bG tX (λx=>decide (x=w))>0 then bG tX (λx=>decide (x=w)) else 0),?_,λhm=>?_⟩
       · simp[o9];rfl
       · simp[tX,h1,h2,D] at hm)
structure aU where
 ss:List (List UInt8×List UInt8×List UInt8)
 cs:List (List UInt8×List UInt8×List (List UInt8))
 ps:List (List UInt8×List UInt8)
 hs:List (List UInt8×List (List UInt8))
 ts:List (List UInt8×List UInt8)
def bD (x:List UInt8×List UInt8×List UInt8):List UInt8×List UInt8×List UInt8:=(x.1,Bd (dn x.2.1),x.2.2)
def cu (x:List UInt8×List UInt8×List UInt8):List UInt8×Nat×Bool:=(x.1,dn x.2.1,decide (x.2.2=jJ))
def cy (x:List UInt8×List UInt8×List (List UInt8)):List UInt8×Int×List (List UInt8):=(x.1,Gj x.2.1,x.2.2)
def c7 (x:List UInt8×List UInt8):List UInt8×cP:=(x.1,aR x.2)
def gh (d:List UInt8):Int:=(dn d:Int)
def dP (x:List UInt8×List (List UInt8)):List UInt8×List Int:=(x.1,x.2.map gh)
def dX (x:List UInt8×List UInt8):List UInt8×Int:=(x.1,fT x.2)
abbrev aeZ:=List (List UInt8×Nat×Bool)×List (List UInt8×Int×List (List UInt8))×List (List UInt8×cP)×List (List UInt8×List Int)×List (List UInt8×Int)
def aC (S:aU):aeZ:=(S.ss.map cu,S.cs.map cy,S.ps.map c7,S.hs.map dP,S.ts.map dX)
abbrev Gq:=List (List UInt8×List UInt8×List UInt8)×List (List UInt8×List UInt8×List (List UInt8))×List (List UInt8×List UInt8)×List (List UInt8×List (List UInt8))×List (List UInt8×List UInt8)
def ao (S:aU):Gq:=(S.ss.map bD,S.cs,S.ps,S.hs,S.ts)
structure cR (S:aU):Prop where
 mr:S.ss.length<=8
 ss: ∀x∈S.ss,dL x.1=true/\ir x.2.1=true/\x.2.2∈AI
 HQ:(S.ss.map (·.1)).Nodup
 vm:S.cs.length<=16
 cs: ∀x∈S.cs,lW x.1=true/\x.1.length<=80/\x.2.1∈tX/\x.2.2.length<=20/\x.2.2.Nodup/\ ∀s∈x.2.2,s∈S.ss.map (·.1)
 H5:(S.cs.map (·.1)).Nodup
 xL:S.ps.length<=16
 ps: ∀x∈S.ps,gm x.1=true/\dc x.2=true/\x.2.length<=80
 HR:(S.ps.map (·.1)).Nodup
 xO:S.hs.length<=16
 hs: ∀x∈S.hs,gm x.1=true/\1<=x.2.length/\x.2.length<=4/\x.2.Nodup/\ ∀d∈x.2,ir d=true
 HX:(S.hs.map (·.1)).Nodup
 xI:S.ts.length<=8
 ts: ∀x∈S.ts,dL x.1=true/\pD x.2=true/\x.2.length<=80
 HP:(S.ts.map (·.1)).Nodup
def pb (S:aU) (r:aQ×Int):List (List UInt8×Nat×Bool)×List (List UInt8×Int×List (List UInt8))×List (List UInt8×cP)×List (List UInt8×List Int)×List (List UInt8×Int)×(aQ×Int)×Unit:=
 (S.ss.map cu,S.cs.map cy,S.ps.map c7,S.hs.map dP,S.ts.map dX,r,())
def wN (S:aU) (o:gK):List (List UInt8×List UInt8×List UInt8)×List (List UInt8×List UInt8×List (List UInt8))×List (List UInt8×List UInt8)×List (List UInt8×List (List UInt8))×List (List UInt8×List UInt8)×gK:=
 (S.ss.map bD,S.cs,S.ps,S.hs,S.ts,o)
def ry {B:Type} (L:aQ) (p:Option (List (List UInt8×Nat×Bool)×List (List UInt8×Int×List (List UInt8))×List (List UInt8×cP)×List (List UInt8×List Int)×List (List UInt8×Int)×(aQ×Int)×Unit⊕(Value×B)))
  (d:Option (List (List UInt8×List UInt8×List UInt8)×List (List UInt8×List UInt8×List (List UInt8))×List (List UInt8×List UInt8)×List (List UInt8×List (List UInt8))×List (List UInt8×List UInt8)×gK)):Prop:=
 (∃F D,cR F/\D<=L.2.1.length/\p=some (.inl (pb F (L,((D:Nat):Int))))/\d=some (wN F (L,((D:Nat):Int),0,0,0)))\/
 (∃(c l J:Int) (D:Nat),¬c=0/\D<=L.2.1.length/\mO p (dt c l J)/\pn d λt=>t.2.2.2.2.2=(L,(D:Int),c,l,J))
theorem AQ {β:Type} {T:aQ×Int->Option ((β×(aQ×Int)×Unit)⊕(Value×Unit))} {kind:Int} {ok:List UInt8->Bool} {val:List UInt8->β} (hT:oj T kind ok val) (l:List (List UInt8)) (hl:l.length<=1000) (L:aQ) (k:Nat) (N:ct L) (hk:k<=L.2.1.length):
  (∃h:k<L.2.1.length,ok (L.2.1[k])=true/\T (L,(k:Int))=some (.inl (val (L.2.1[k]),(L,((k+1:Nat):Int)),()))/\
   ((cw l (L.2.1[k])=true/\j8 kind l (L,(k:Int),0,0,0)=some (L.2.1[k],(L,((k+1:Nat):Int),3,L.1,aL L (k+1))))\/
    (cw l (L.2.1[k])=false/\j8 kind l (L,(k:Int),0,0,0)=some (L.2.1[k],(L,((k+1:Nat):Int),0,0,0)))))\/
  (∃(c li D:Int) (J:Nat) (w:List UInt8),¬c=0/\J<=L.2.1.length/\T (L,(k:Int))=some (.inr (dt c li D,()))/\j8 kind l (L,(k:Int),0,0,0)=some (w,(L,(J:Int),c,li,D))):=by
 rcases hT L k N hk with⟨h,Z,M,F⟩ |⟨c,li,D,J,w,hc,Y,M,F⟩
 · refine .inl ⟨h,Z,M,?_⟩;have U:=qp l (L.2.1[k]) (by omega)
   cases O:cw l (L.2.1[k]) with
   |true=>refine .inl ⟨rfl,?_⟩;unfold j8;simp only[F,aa7,bw,decide_true,cond_true,U,O,gF 3 L N (k+1) h (0,0) rfl]
   |false=>refine .inr ⟨rfl,?_⟩;unfold j8;simp[F,bw,U,O]
 · refine .inr ⟨c,li,D,J,w,hc,Y,M,?_⟩;unfold j8;simp (disch:=omega) only[K0,F,bw]
theorem Zn (w:List UInt8): ∃(b:Int×Bool) (t:List UInt8),nT w=some b/\Ae b.1=some t/\(ir w=true->t=Bd (dn w)):=by
 rw[KG];by_cases h:w.length=16/\w.all eL=true
 · rw[if_pos h];have:=FY w (by omega) h.2
   exact⟨_,_,rfl,Xp _ this,λ_=>rfl⟩
 · rw[if_neg h];refine⟨_,_,rfl,Xp 0 (by simp),λg=>absurd ?_ h⟩
   grind[ir]
theorem Z3 (S:aU):(S.ss.map cu).map (·.1)=S.ss.map (·.1):=by rw[au4];rfl
theorem Z4 (S:aU):(S.ss.map bD).map (·.1)=S.ss.map (·.1):=by rw[au4];rfl
theorem alq (S:aU) (D:cR S) (L:aQ) (U:ct L) (k:Nat) (hk:k<=L.2.1.length):
  ry L (I2 (S.ss.map cu) (S.cs.map cy) (S.ps.map c7) (S.hs.map dP) (S.ts.map dX) (L,(k:Int))) (mB nS (S.ss.map bD) S.cs S.ps S.hs S.ts (L,(k:Int),0,0,0)):=by
 have h8:=D.mr;have av:=agQ (S.ss.map bD) S.cs S.ps S.hs S.ts (by rw[ae2];omega)
 have hr:=aka (S.ss.map cu) 8 L U k hk;have hr:C6 8 (L,k) (S.ss.map cu)=_:=hr;unfold ry I2 mB;simp only[hr,av,decide_true,cond_true,aa7,ae2,mD _ _ L U k hk,Z4,fp];have hB: ∀w (c li F) (M:Nat) (hc: ¬c=0) g,pn ((nT w).bind λbits=>(Ae bits.1).bind λtext=>(k6 [jJ,wa] (L,M,c,li,F)).bind λone=>J (S.ss.length+[(g,text,one.1)].length<=1000000000)<|some ((S.ss.map bD++[(g,text,one.1)]),S.cs,S.ps,S.hs,S.ts,one.2)) (λt=>t.2.2.2.2.2=(L,(M:Int),c,li,F)):=by intro w c li F M hc g;obtain⟨b,t,e1,e2,_⟩:=Zn w;simp[e1,e2,aa7,Ml _ (L,M,c,li,F) hc];simp (disch:=omega) only[K0];rfl
 by_cases c8:S.ss.length=8
 · have hc: ¬(2:Int)=0:=by decide
   refine .inr ⟨2,L.1,aL L k,k,hc,hk,?_,?_⟩
   · simp[if_pos c8];rfl
   · simp only[if_pos (show(8:Int)<=S.ss.length by omega),Fi _ _ (L,k,2,L.1,aL L k) hc,aa7,iS _ (L,k,2,L.1,aL L k) hc]
     exact hB [] 2 L.1 (aL L k) k hc []
 · simp only[if_neg c8,if_neg (show¬8<=(S.ss.length:Int) by omega),ae2,fp]
   rcases AQ SQ (S.ss.map (·.1)) (by rw[ae2];omega) L k U hk with⟨h1,hp,Z,N⟩ |⟨c,li,F,M,w,hc,Y,Z,N⟩
   · simp only[id] at Z;have hu:=aiJ (S.ss.map cu) (L.2.1[k]) (by rw[ae2];omega) L U (k+1) h1
     rw[Z3] at hu;rcases N with⟨hi,N⟩ |⟨hi,N⟩
     · have hc: ¬(3:Int)=0:=by decide
       refine .inr ⟨3,L.1,aL L (k+1),k+1,hc,h1,?_,?_⟩
       · simp (disch:=omega) only[K0,Z,hu,hi];rfl
       · simp only[N,aa7,iS _ (L,((k+1):Int),3,L.1,aL L (k+1)) hc];exact hB [] 3 L.1 (aL L (k+1)) (k+1) hc _
     · simp only[Z,N,aa7,hu,hi,af7,if_false,fp];rcases are L (k+1) U h1 with⟨h2,hx,an,ah⟩ |⟨c,li,F,M,w,hc,Y,an,ah⟩
       · obtain⟨b,t,e1,e2,e3⟩:=Zn (L.2.1[k+1]);have e3:=e3 hx;subst e3;simp only[an,ah,e1,e2,aa7];rcases arZ L (k+1+1) U h2 with⟨h3,hm,ar,O⟩ |⟨c,li,F,M,w,hc,Y,ar,O⟩
         · have O:k6 [jJ,wa] (L,((k+1+1:Nat):Int),0,0,0)=_:=O;refine .inl ⟨{S with ss:=S.ss++[(L.2.1[k],L.2.1[k+1],L.2.1[k+1+1])]},k+1+1+1,⟨?_,?_,?_,D.vm,?_,D.H5,D.xL,D.ps,D.HR,D.xO,D.hs,D.HX,D.xI,D.ts,D.HP⟩,h3,?_,?_⟩
           · show(S.ss++[_]).length<=8;simp;omega
           · exact kZ D.ss ⟨hp,hx,hm⟩
           · show((S.ss++[(L.2.1[k],L.2.1[k+1],L.2.1[k+1+1])]).map (λx:List UInt8×List UInt8×List UInt8=>x.1)).Nodup;rw[ag9];exact nR D.HQ (r8 hi)
           · intro x az;obtain⟨g1,g2,g3,g4,g5,g6⟩:=D.cs x az;refine⟨g1,g2,g3,g4,g5,λs hs=>?_⟩;show s∈(S.ss++[(L.2.1[k],L.2.1[k+1],L.2.1[k+1+1])]).map (λx:List UInt8×List UInt8×List UInt8=>x.1);rw[ag9];exact List.mem_append_left _ (g6 s hs)
           · simp only[ar,aa7,ae2,fp];simp (disch:=omega) only[K0];unfold pb;simp[ag9];rfl
           · simp only[O,aa7];simp (disch:=omega) only[K0];unfold wN;simp[ag9];rfl
         · have O:k6 [jJ,wa] (L,((k+1+1:Nat):Int),0,0,0)=_:=O;refine .inr ⟨c,li,F,M,hc,Y,?_,?_⟩
           · simp only[ar,aa7,ae2,fp];rfl
           · simp only[O,aa7];simp (disch:=omega) only[K0];rfl
       · refine .inr ⟨c,li,F,M,hc,Y,?_,?_⟩
         · simp only[an,aa7,ae2,fp];rfl
         · simp only[ah,aa7];exact hB _ c li F M hc _
   · refine .inr ⟨c,li,F,M,hc,Y,?_,?_⟩
     · simp[Z,aa7];rfl
     · simp only[N,aa7,iS _ (L,M,c,li,F) hc];exact hB [] c li F M hc _
theorem ao1 (l:List (List UInt8×List UInt8)):(l.map c7).map (·.1)=l.map (·.1):=by rw[au4];rfl
theorem ao0 (l:List (List UInt8×List UInt8)):(l.map dX).map (·.1)=l.map (·.1):=by rw[au4];rfl
theorem Z5 (l:List (List UInt8×List UInt8×List (List UInt8))):(l.map cy).map (·.1)=l.map (·.1):=by rw[au4];rfl
theorem ao2 (l:List (List UInt8×List (List UInt8))):(l.map dP).map (·.1)=l.map (·.1):=by rw[au4];rfl
theorem aqm (S:aU) (D:cR S) (L:aQ) (J:ct L) (k:Nat) (hk:k<=L.2.1.length):
  ry L (Ju (S.ss.map cu) (S.cs.map cy) (S.ps.map c7) (S.hs.map dP) (S.ts.map dX) (L,(k:Int))) (mB ui (S.ss.map bD) S.cs S.ps S.hs S.ts (L,(k:Int),0,0,0)):=by
 have hm:=D.xL;have an:=WK S.ps (by omega)
 have hr:=aoD (S.ps.map c7) 16 L J k hk;have hr:DA 16 (L,k) (S.ps.map c7)=_:=hr;unfold ry Ju mB;simp only[hr,an,dN (show¬ui=nS by decide),cond_false,aa7,mD _ _ L J k hk,fp]
 by_cases c8:S.ps.length=16
 · have hc: ¬(2:Int)=0:=by decide
   refine .inr ⟨2,L.1,aL L k,k,hc,hk,?_,?_⟩
   · simp[if_pos c8];rfl
   · simp[Fi _ _ (L,k,2,L.1,aL L k) hc];simp (disch:=omega) only[K0];rfl
 · simp only[if_neg c8,if_neg (show¬16<=(S.ps.length:Int) by omega),ae2,fp]
   rcases AQ abU (S.ps.map (·.1)) (by grind) L k J hk with⟨h1,hp,M,F⟩ |⟨c,li,N,O,w,hc,Z,M,F⟩
   · simp only[id] at M;have hu:=ald (S.ps.map c7) (L.2.1[k]) (by grind) L J (k+1) h1
     rw[ao1] at hu;rcases F with⟨Y,F⟩ |⟨Y,F⟩
     · have hc: ¬(3:Int)=0:=by decide
       refine .inr ⟨3,L.1,aL L (k+1),k+1,hc,h1,?_,?_⟩
       · simp (disch:=omega) only[K0,M,hu];rfl
       · simp[F];simp (disch:=omega) only[K0];rfl
     · simp only[M,F,aa7,hu,Y,af7,if_false];rcases Zx L (k+1) J h1 with⟨h2,hx,ah,U⟩ |⟨c,li,N,O,w,hc,Z,ah,U⟩
       · refine .inl ⟨{S with ps:=S.ps++[(L.2.1[k],L.2.1[k+1])]},k+1+1,⟨D.mr,D.ss,D.HQ,D.vm,D.cs,D.H5,?_,?_,?_,D.xO,D.hs,D.HX,D.xI,D.ts,D.HP⟩,h2,?_,?_⟩
         · grind
         · exact kZ D.ps ⟨hp,hx,wO J h2⟩
         · show((S.ps++[(L.2.1[k],L.2.1[k+1])]).map (λx:List UInt8×List UInt8=>x.1)).Nodup;rw[ag9];exact nR D.HR (r8 Y)
         · simp only[ah,ae2,fp];simp (disch:=omega) only[K0];unfold pb;simp[ag9];rfl
         · simp only[U];simp (disch:=omega) only[K0];rfl
       · refine .inr ⟨c,li,N,O,hc,Z,?_,?_⟩
         · simp only[ah,ae2,fp];rfl
         · simp only[U];simp (disch:=omega) only[K0];rfl
   · refine .inr ⟨c,li,N,O,hc,Z,?_,?_⟩
     · simp[M];rfl
     · simp[F,iS _ (L,O,c,li,N) hc];simp (disch:=omega) only[K0];rfl
theorem alg (S:aU) (D:cR S) (L:aQ) (J:ct L) (k:Nat) (hk:k<=L.2.1.length):
  ry L (I1 (S.ss.map cu) (S.cs.map cy) (S.ps.map c7) (S.hs.map dP) (S.ts.map dX) (L,(k:Int))) (mB tL (S.ss.map bD) S.cs S.ps S.hs S.ts (L,(k:Int),0,0,0)):=by
 have hm:=D.xI;have an:=WK S.ts (by omega)
 have hr:=aj9 (S.ts.map dX) 8 L J k hk;have hr:C5 8 (L,k) (S.ts.map dX)=_:=hr;unfold ry I1 mB;simp only[hr,an,dN (show¬tL=nS by decide),cond_true,cond_false,aa7,ae2,mD _ _ L J k hk,fp]
 by_cases c8:S.ts.length=8
 · have hc: ¬(2:Int)=0:=by decide
   refine .inr ⟨2,L.1,aL L k,k,hc,hk,?_,?_⟩
   · simp[if_pos c8];rfl
   · simp[Fi _ _ (L,k,2,L.1,aL L k) hc];simp (disch:=omega) only[K0];rfl
 · simp only[if_neg c8,if_neg (show¬8<=(S.ts.length:Int) by omega),ae2,fp]
   rcases AQ SQ (S.ts.map (·.1)) (by grind) L k J hk with⟨h1,hp,M,F⟩ |⟨c,li,N,O,w,hc,Z,M,F⟩
   · simp only[id] at M;have hu:=aiI (S.ts.map dX) (L.2.1[k]) (by grind) L J (k+1) h1
     rw[ao0] at hu;rcases F with⟨Y,F⟩ |⟨Y,F⟩
     · have hc: ¬(3:Int)=0:=by decide
       refine .inr ⟨3,L.1,aL L (k+1),k+1,hc,h1,?_,?_⟩
       · simp (disch:=omega) only[K0,M,hu];rfl
       · simp[F];simp (disch:=omega) only[K0];rfl
     · simp only[M,F,aa7,hu,Y,af7,if_false];rcases aaX L (k+1) J h1 with⟨h2,hx,ah,U⟩ |⟨c,li,N,O,w,hc,Z,ah,U⟩
       · refine .inl ⟨{S with ts:=S.ts++[(L.2.1[k],L.2.1[k+1])]},k+1+1,⟨D.mr,D.ss,D.HQ,D.vm,D.cs,D.H5,D.xL,D.ps,D.HR,D.xO,D.hs,D.HX,?_,?_,?_⟩,h2,?_,?_⟩
         · grind
         · exact kZ D.ts ⟨hp,hx,wO J h2⟩
         · show((S.ts++[(L.2.1[k],L.2.1[k+1])]).map (λx:List UInt8×List UInt8=>x.1)).Nodup;rw[ag9];exact nR D.HP (r8 Y)
         · simp only[ah,ae2,fp];simp (disch:=omega) only[K0];unfold pb;simp[ag9];rfl
         · simp only[U];simp (disch:=omega) only[K0];rfl
       · refine .inr ⟨c,li,N,O,hc,Z,?_,?_⟩
         · simp only[ah,ae2,fp];rfl
         · simp only[U];simp (disch:=omega) only[K0];rfl
   · refine .inr ⟨c,li,N,O,hc,Z,?_,?_⟩
     · simp[M];rfl
     · simp[F,iS _ (L,O,c,li,N) hc];simp (disch:=omega) only[K0];rfl
theorem Zh (c2 F:List UInt8) (J:List (List UInt8)) (p:Gq) (L:aQ) (k c l D:Int) (hc: ¬c=0):
  ab kT (c2,F,J,p.1,p.2.1,p.2.2.1,p.2.2.2.1,p.2.2.2.2,L.1,L.2.1,L.2.2,k,c,l,D,())=some (c2,F,J,p.1,p.2.1,p.2.2.1,p.2.2.2.1,p.2.2.2.2,L.1,L.2.1,L.2.2,k,c,l,D,()):=by
 refine bk ?_;simp[kT,qx ((L.1,L.2.1,L.2.2),k,c,l,D) hc]
theorem YH (p:Gq) (s:List UInt8) (D:p.1.length<=1000):vH p s=some (bG p.1 λx=>decide (x.1=s)):=by
 have h:=iT (f:=C4) p.1 (λx=>decide (x.1=s)) (λk=>(s,k,p.1,p.2.1,p.2.2.1,p.2.2.2.1,p.2.2.2.2,())) (λk=>Sum.inr (k,())) (Sum.inl ()) (λk h hp=>by
  have hp:=of_decide_eq_false hp;simp (disch:=omega) only[K0,C4]) (λk h hp=>by
  have hp:=of_decide_eq_true hp;simp (disch:=omega) only[K0,C4]) (by
  simp[C4])
 grind[vH,bG]
theorem aml (S:aU) (hS:cR S) (L:aQ) (Y:ct L) (g F:List UInt8) (U:Int): ∀(n k:Nat) (seen:List (List UInt8)),L.2.1.length - k<=n->k<=L.2.1.length->seen.length<=k->seen.Nodup->(∀s∈seen,s∈S.ss.map (·.1))->
  (∃D,D.length<=20/\D.Nodup/\(∀s∈D,s∈S.ss.map (·.1))/\
   ab p9 (g,U,seen,S.ss.map cu,S.cs.map cy,S.ps.map c7,S.hs.map dP,S.ts.map dX,L.1,L.2.1,L.2.2,(k:Int),())=some (.inl (g,U,D,S.ss.map cu,S.cs.map cy,S.ps.map c7,S.hs.map dP,S.ts.map dX,L.1,L.2.1,L.2.2,(L.2.1.length:Int),()))/\
   ab kT (g,F,seen,S.ss.map bD,S.cs,S.ps,S.hs,S.ts,L.1,L.2.1,L.2.2,(k:Int),0,0,0,())=some (g,F,D,S.ss.map bD,S.cs,S.ps,S.hs,S.ts,L.1,L.2.1,L.2.2,(L.2.1.length:Int),0,0,0,()))\/
  (∃(c l M:Int) (k':Nat) (D:List (List UInt8)),¬c=0/\k'<=L.2.1.length/\mO (ab p9 (g,U,seen,S.ss.map cu,S.cs.map cy,S.ps.map c7,S.hs.map dP,S.ts.map dX,L.1,L.2.1,L.2.2,(k:Int),())) (dt c l M)/\
   ab kT (g,F,seen,S.ss.map bD,S.cs,S.ps,S.hs,S.ts,L.1,L.2.1,L.2.2,(k:Int),0,0,0,())=some (g,F,D,S.ss.map bD,S.cs,S.ps,S.hs,S.ts,L.1,L.2.1,L.2.2,(k':Int),c,l,M,())):=by
 have aE:=Y.2.1;have h8:=hS.mr
 have done: ∀seen,seen.length<=20->seen.Nodup->(∀s∈seen,s∈S.ss.map (·.1))->(∃D,D.length<=20/\D.Nodup/\(∀s∈D,s∈S.ss.map (·.1))/\
   ab p9 (g,U,seen,S.ss.map cu,S.cs.map cy,S.ps.map c7,S.hs.map dP,S.ts.map dX,L.1,L.2.1,L.2.2,L.2.1.length,())=some (.inl (g,U,D,S.ss.map cu,S.cs.map cy,S.ps.map c7,S.hs.map dP,S.ts.map dX,L.1,L.2.1,L.2.2,L.2.1.length,()))/\
   ab kT (g,F,seen,S.ss.map bD,S.cs,S.ps,S.hs,S.ts,L.1,L.2.1,L.2.2,L.2.1.length,0,0,0,())=some (g,F,D,S.ss.map bD,S.cs,S.ps,S.hs,S.ts,L.1,L.2.1,L.2.2,(L.2.1.length:Int),0,0,0,())):=by
  intro seen q1 q2 q3;refine⟨seen,q1,q2,q3,bk ?_,bk ?_⟩
  · simp[p9];rw[show jD ((L.1,L.2.1,L.2.2),(L.2.1.length:Int))=_ from gb L L.2.1.length,dN (show¬L.2.1.length<L.2.1.length by omega)]
    rfl
  · simp[kT];rw[show j6 ((L.1,L.2.1,L.2.2),(L.2.1.length:Int),0,0,0)=_ from qm L L.2.1.length (0,0),dN (show¬L.2.1.length<L.2.1.length by omega)]
    rfl
 have bad:=λ(D:List (List UInt8)) (k c l M) hc=>Zh g F D (S.ss.map bD,S.cs,S.ps,S.hs,S.ts) L k c l M hc;intro n
 induction n with
 |zero=>
  intro k seen hn hk hs q2 q3;have e:k=L.2.1.length:=by omega
  subst e;exact .inl (done seen (by omega) q2 q3)
 |succ n ih=>
  intro k seen hn hk hs q2 q3;by_cases J:k<L.2.1.length
  · have e1:jD ((L.1,L.2.1,L.2.2),k)=some (true,(L,(k:Int))):=by
      have:=gb L k;rw[dY J] at this;exact this
    have e2:j6 ((L.1,L.2.1,L.2.2),k,0,0,0)=some (true,(L,(k:Int),0,0,0)):=by have:=qm L k (0,0);rw[dY J] at this;exact this
    rcases SQ L k Y hk with⟨_,hp,Z,hd⟩ |⟨c,l,M,k',w',hc,az,Z,hd⟩
    · simp[id] at Z;have ah:=zo seen (L.2.1[k]) (by omega)
      have an:=qp seen (L.2.1[k]) (by omega)
      have av:ti (S.ss.map cu,S.cs.map cy,S.ps.map c7,S.hs.map dP,S.ts.map dX) (L.2.1[k])=some (bG (S.ss.map cu) λx=>decide (x.1=L.2.1[k])):=by unfold ti;rw[Qj _ _ (by grind),aa7]
      have ar:=YH (S.ss.map bD,S.cs,S.ps,S.hs,S.ts) (L.2.1[k]) (by grind)
      have i1:((S.ss.map cu).any λx=>decide (x.1=L.2.1[k]))=cw (S.ss.map (·.1)) (L.2.1[k]):=by rw[vU,Z3]
      have i2:((S.ss.map bD).any λx=>decide (x.1=L.2.1[k]))=cw (S.ss.map (·.1)) (L.2.1[k]):=by rw[vU,Z4]
      cases O:cw (S.ss.map (·.1)) (L.2.1[k]) with
      |false=>
       refine .inr ⟨4,L.1,aL L (k+1),k+1,seen++[L.2.1[k]],by decide,J,?_,?_⟩
       · rw[bJ];simp (disch:=omega) only[K0,p9,e1,Z,av,Ao,i1,O,cL 4 L Y (k+1) J];rfl
       · have N:kT (g,F,seen,S.ss.map bD,S.cs,S.ps,S.hs,S.ts,L.1,L.2.1,L.2.2,k,0,0,0,())=some (.inl (g,F,seen++[L.2.1[k]],S.ss.map bD,S.cs,S.ps,S.hs,S.ts,L.1,L.2.1,L.2.2,((k+1):Int),4,L.1,aL L (k+1),())):=by
           simp only[kT,e2,aa7,hd,bw,decide_true,ar,Ao,i2,O,gF 4 L Y (k+1) J (0,0) rfl,dN (show¬4=0 by decide)]
           simp (disch:=omega) only[K0]
         rw[aZ N];exact bad _ _ 4 _ _ (by simp)
      |true=>
       cases hi:cw seen L.2.1[k] with
       |true=>
        rw[hi] at ah an;refine .inr ⟨3,L.1,aL L (k+1),k+1,seen++[L.2.1[k]],by decide,J,?_,?_⟩
        · rw[bJ];simp (disch:=omega) only[K0,p9,e1,Z,av,Ao,i1,O,ah,cL 3 L Y (k+1) J];rfl
        · have N:kT (g,F,seen,S.ss.map bD,S.cs,S.ps,S.hs,S.ts,L.1,L.2.1,L.2.2,k,0,0,0,())=some (.inl (g,F,seen++[L.2.1[k]],S.ss.map bD,S.cs,S.ps,S.hs,S.ts,L.1,L.2.1,L.2.2,((k+1):Int),3,L.1,aL L (k+1),())):=by
            simp only[kT,e2,aa7,cond_true,hd,bw,decide_true,ar,Ao,i2,O,ae8,an,gF 3 L Y (k+1) J (0,0) rfl];simp (disch:=omega) only[K0]
          rw[aZ N];exact bad _ _ 3 _ _ (by simp)
       |false=>
        rw[hi] at ah an;have N:p9 (g,U,seen,S.ss.map cu,S.cs.map cy,S.ps.map c7,S.hs.map dP,S.ts.map dX,L.1,L.2.1,L.2.2,k,())=some (.inl (g,U,seen++[L.2.1[k]],S.ss.map cu,S.cs.map cy,S.ps.map c7,S.hs.map dP,S.ts.map dX,L.1,L.2.1,L.2.2,((k+1):Int),())):=by simp[p9,e1,aa7,Z,av,Ao,i1,O,cond_false,ah];simp (disch:=omega) only[K0]
        have e4:kT (g,F,seen,S.ss.map bD,S.cs,S.ps,S.hs,S.ts,L.1,L.2.1,L.2.2,k,0,0,0,())=some (.inl (g,F,seen++[L.2.1[k]],S.ss.map bD,S.cs,S.ps,S.hs,S.ts,L.1,L.2.1,L.2.2,((k+1):Int),0,0,0,())):=by simp[kT,e2,aa7,hd,bw,ar,Ao,i2,O,ae8,an];simp (disch:=omega) only[K0]
        rw[aZ N,aZ e4];exact ih (k+1) (seen++[L.2.1[k]]) (by omega) J (by simp;omega) (nR q2 (r8 hi)) (kZ q3 ((qD _ _).1 O))
    · refine .inr ⟨c,l,M,k',seen++[w'],hc,az,?_,?_⟩
      · rw[bJ];simp (disch:=omega) only[K0,p9,e1,Z];rfl
      · have a1:=qp seen w' (by omega)
        have N:kT (g,F,seen,S.ss.map bD,S.cs,S.ps,S.hs,S.ts,L.1,L.2.1,L.2.2,k,0,0,0,())=some (.inl (g,F,seen++[w'],S.ss.map bD,S.cs,S.ps,S.hs,S.ts,L.1,L.2.1,L.2.2,k',c,l,M,())):=by simp[kT,e2,aa7,hd,bw,dN hc,cond_false];simp (disch:=omega) only[K0]
        rw[aZ N];exact bad _ _ c _ _ hc
  · have e:k=L.2.1.length:=by omega
    subst e;exact .inl (done seen (by omega) q2 q3)
theorem aoa (S:aU) (D:cR S) (L:aQ) (J:ct L) (k:Nat) (hk:k<=L.2.1.length):
  ry L (Jn (S.ss.map cu) (S.cs.map cy) (S.ps.map c7) (S.hs.map dP) (S.ts.map dX) (L,(k:Int))) (mB qA (S.ss.map bD) S.cs S.ps S.hs S.ts (L,(k:Int),0,0,0)):=by
 have hm:=D.vm;have an:=agR (S.ss.map bD) S.cs S.ps S.hs S.ts (by omega)
 have hr:=aly (S.cs.map cy) 16 L J k hk;have hr:Dh 16 (L,k) (S.cs.map cy)=_:=hr;have bad:=λ(a b) U (k c l F) hc=>Zh a b U (S.ss.map bD,S.cs,S.ps,S.hs,S.ts) L k c l F hc;unfold ry Jn mB Qz;simp only[hr,an,dN (show¬qA=nS by decide),decide_true,cond_true,cond_false,aa7,mD _ _ L J k hk,fp]
 by_cases c8:S.cs.length=16
 · have hc: ¬(2:Int)=0:=by decide
   refine .inr ⟨2,L.1,aL L k,k,hc,hk,?_,?_⟩
   · simp[if_pos c8];rfl
   · simp[if_pos (show(16:Int)<=S.cs.length by omega),Fi _ _ (L,k,2,L.1,aL L k) hc,Ml _ (L,k,2,L.1,aL L k) hc,bad _ _ _ _ 2 _ _ hc]
     simp (disch:=omega) only[K0];rfl
 · simp only[if_neg c8,if_neg (show¬16<=(S.cs.length:Int) by omega),ae2,fp]
   rcases AQ arh (S.cs.map (·.1)) (by grind) L k J hk with⟨h1,hp,Z,M⟩ |⟨c,li,F,O,w,hc,Y,Z,M⟩
   · simp only[id] at Z;have hu:=ajn (S.cs.map cy) (L.2.1[k]) (by grind) L J (k+1) h1
     rw[Z5] at hu;rcases M with⟨hi,M⟩ |⟨hi,M⟩
     · have hc: ¬(3:Int)=0:=by decide
       refine .inr ⟨3,L.1,aL L (k+1),k+1,hc,h1,?_,?_⟩
       · simp (disch:=omega) only[K0,Z,hu];rfl
       · simp only[M,aa7,Ml _ (L,((k+1:Nat):Int),3,L.1,aL L (k+1)) hc,bad _ _ _ _ 3 _ _ hc];simp (disch:=omega) only[K0];rfl
     · simp only[Z,M,aa7,hu,hi,af7,if_false];rcases ar0 L (k+1) J h1 with⟨h2,hx,ah,N⟩ |⟨c,li,F,O,w,hc,Y,ah,N⟩
       · have N:k6 [iF,pe,hW] (L,((k+1:Nat):Int),0,0,0)=_:=N;simp only[ah,N,aa7,ae2,fp];rcases aml S D L J (L.2.1[k]) (L.2.1[k+1]) (Gj (L.2.1[k+1])) L.2.1.length (k+1+1) [] (by simp) h2 (ae3 _) List.nodup_nil (λs h=>by cases h) with⟨U,g1,g2,g3,g4,g5⟩ |⟨c,li,F,O,U,hc,Y,g4,g5⟩
         · refine .inl ⟨{S with cs:=S.cs++[(L.2.1[k],L.2.1[k+1],U)]},L.2.1.length,⟨D.mr,D.ss,D.HQ,?_,?_,?_,D.xL,D.ps,D.HR,D.xO,D.hs,D.HX,D.xI,D.ts,D.HP⟩,ab8 _,?_,?_⟩
           · grind
           · exact kZ D.cs ⟨hp,wO J h1,hx,g1,g2,g3⟩
           · show((S.cs++[(L.2.1[k],L.2.1[k+1],U)]).map (λx:List UInt8×List UInt8×List (List UInt8)=>x.1)).Nodup;rw[ag9];exact nR D.H5 (r8 hi)
           · simp only[g4,aa7,ae2];simp (disch:=omega) only[K0];unfold pb;simp[ag9];rfl
           · simp only[g5];simp (disch:=omega) only[K0];rfl
         · obtain⟨b,g4⟩:=lP g4;refine .inr ⟨c,li,F,O,hc,Y,?_,?_⟩
           · simp only[g4];rfl
           · simp only[g5];simp (disch:=omega) only[K0];rfl
       · have N:k6 [iF,pe,hW] (L,((k+1:Nat):Int),0,0,0)=_:=N;refine .inr ⟨c,li,F,O,hc,Y,?_,?_⟩
         · simp only[ah];rfl
         · simp only[N,aa7,bad _ _ _ _ c _ _ hc];simp (disch:=omega) only[K0];rfl
   · refine .inr ⟨c,li,F,O,hc,Y,?_,?_⟩
     · simp[Z];rfl
     · simp[M,Ml _ (L,O,c,li,F) hc,bad _ _ _ _ c _ _ hc];simp (disch:=omega) only[K0];rfl
theorem apl {a b:UInt8} (D:eL a=true) (F:eL b=true) (h:gM a.toNat=gM b.toNat):a=b:=by have D:=of_decide_eq_true D;have F:=of_decide_eq_true F;apply UInt8.toNat_inj.1;unfold gM at D F h;split at D<;>split at F<;>(try split at D)<;>(try split at F)<;>(try split at h)<;>(try split at h)<;>(try split at h)<;>(try split at h)<;>omega
theorem Ra (s:List UInt8): ∀n,s.foldl de n=n*16 ^s.length+s.foldl de 0:=by
 induction s with
 |nil=>grind
 |cons c t D=>grind[de]
theorem Q9: ∀(s:List UInt8),s.all eL=true->s.foldl de 0<16 ^s.length
 |[],_=>by show 0<1;omega
 |c::t,h=>by
  rw[at1,ad0] at h;have h2:=of_decide_eq_true h.1;have D:=Q9 t h.2;show t.foldl de (de 0 c)<_;rw[Ra];have:de 0 c+1<=16:=by unfold de;omega
  have:=Nat.mul_le_mul_right (16 ^t.length) this;grind
theorem aam: ∀{a b:List UInt8},a.all eL=true->b.all eL=true->a.length=b.length->a.foldl de 0=b.foldl de 0->a=b
 |[],[],_,_,_,_=>rfl
 |[],y::t,_,_,h,_=>by simp at h
 |x::s,[],_,_,h,_=>by simp at h
 |x::s,y::t,D,F,J,h=>by
  rw[at1,ad0] at D F;have J:s.length=t.length:=by grind
  have h:s.foldl de (de 0 x)=t.foldl de (de 0 y):=h;rw[Ra s,Ra t,J] at h;have M:=Q9 s D.2;have O:=Q9 t F.2;rw[J] at M
  have L:de 0 x=de 0 y:=by
   have U:(de 0 x*16 ^t.length+s.foldl de 0)/16 ^t.length=de 0 x:=by rw[Nat.add_comm,Nat.add_mul_div_right _ _ (Nat.pow_pos (by simp)),Nat.div_eq_of_lt M,Nat.zero_add]
   have Y:(de 0 y*16 ^t.length+t.foldl de 0)/16 ^t.length=de 0 y:=by rw[Nat.add_comm,Nat.add_mul_div_right _ _ (Nat.pow_pos (by simp)),Nat.div_eq_of_lt O,Nat.zero_add]
   grind
  have N:=apl D.1 F.1 (by unfold de at L;omega)
  rw[L] at h;rw[N,aam D.2 F.2 J (by omega)]
theorem vT {d:List UInt8} (h:ir d=true):d.length=16/\d.all eL=true:=by grind[ir]
theorem aqX {a b:List UInt8} (F:ir a=true) (J:ir b=true):gh a=gh b<->a=b:=by
 obtain⟨L,a2⟩:=vT F;obtain⟨M,D⟩:=vT J;refine⟨λh=>aam a2 D (by omega) ?_,λh=>by rw[h]⟩
 grind[gh,Tj]
theorem aby (D:List (List UInt8)) (d:List UInt8) (hs: ∀x∈D,ir x=true) (F:ir d=true):((D.map gh).any λx=>decide (x=gh d))=cw D d:=by
 unfold cw
 induction D with
 |nil=>rfl
 |cons x t J=>
  rw[List.any_cons];have h1:=hs x am5
  have:decide (gh x=gh d)=decide (x=d):=by
   by_cases h:x=d
   · grind
   · rw[dN h,dN (λg=>h ((aqX h1 F).1 g))]
  grind
theorem Mr (kind:Int) (l:List (List UInt8)) (o:gK):Lo kind o l=(j8 kind l o).bind λr=>some (r.1,r.2,l):=by
 unfold Lo j8;cases eW kind o with
 |none=>rfl
 |some t=>grind
theorem aao (h:List UInt8) (F:List (List UInt8)) (p:Gq) (L:aQ) (k c l D:Int) (hc: ¬c=0):
  ab kU (h,F,p.1,p.2.1,p.2.2.1,p.2.2.2.1,p.2.2.2.2,L.1,L.2.1,L.2.2,k,c,l,D,())=some (h,F,p.1,p.2.1,p.2.2.1,p.2.2.2.1,p.2.2.2.2,L.1,L.2.1,L.2.2,k,c,l,D,()):=by
 refine bk ?_;simp (disch:=omega) only[K0,kU,qx ((L.1,L.2.1,L.2.2),k,c,l,D) hc]
def MM (D:List (List UInt8)):Prop:=1<=D.length/\D.length<=4/\D.Nodup/\ ∀d∈D,ir d=true
theorem anP (S:aU) (L:aQ) (Y:ct L) (h:List UInt8): ∀(n k:Nat) (D:List (List UInt8)),L.2.1.length - k<=n->k<=L.2.1.length->MM D->
  (∃F,MM F/\
   ab nI (h,D.map gh,S.ss.map cu,S.cs.map cy,S.ps.map c7,S.hs.map dP,S.ts.map dX,L.1,L.2.1,L.2.2,(k:Int),())=some (.inl (h,F.map gh,S.ss.map cu,S.cs.map cy,S.ps.map c7,S.hs.map dP,S.ts.map dX,L.1,L.2.1,L.2.2,(L.2.1.length:Int),()))/\
   ab kU (h,D,S.ss.map bD,S.cs,S.ps,S.hs,S.ts,L.1,L.2.1,L.2.2,(k:Int),0,0,0,())=some (h,F,S.ss.map bD,S.cs,S.ps,S.hs,S.ts,L.1,L.2.1,L.2.2,(L.2.1.length:Int),0,0,0,()))\/
  (∃(c l M:Int) (k':Nat) (F:List (List UInt8)),¬c=0/\k'<=L.2.1.length/\mO (ab nI (h,D.map gh,S.ss.map cu,S.cs.map cy,S.ps.map c7,S.hs.map dP,S.ts.map dX,L.1,L.2.1,L.2.2,(k:Int),())) (dt c l M)/\
   ab kU (h,D,S.ss.map bD,S.cs,S.ps,S.hs,S.ts,L.1,L.2.1,L.2.2,(k:Int),0,0,0,())=some (h,F,S.ss.map bD,S.cs,S.ps,S.hs,S.ts,L.1,L.2.1,L.2.2,(k':Int),c,l,M,())):=by
 have an:=Y.2.1
 have done: ∀D,MM D->(∃F,MM F/\
   ab nI (h,D.map gh,S.ss.map cu,S.cs.map cy,S.ps.map c7,S.hs.map dP,S.ts.map dX,L.1,L.2.1,L.2.2,L.2.1.length,())=some (.inl (h,F.map gh,S.ss.map cu,S.cs.map cy,S.ps.map c7,S.hs.map dP,S.ts.map dX,L.1,L.2.1,L.2.2,L.2.1.length,()))/\
   ab kU (h,D,S.ss.map bD,S.cs,S.ps,S.hs,S.ts,L.1,L.2.1,L.2.2,L.2.1.length,0,0,0,())=some (h,F,S.ss.map bD,S.cs,S.ps,S.hs,S.ts,L.1,L.2.1,L.2.2,(L.2.1.length:Int),0,0,0,())):=by
  intro D q1;refine⟨D,q1,bk ?_,bk ?_⟩
  · simp[nI];rw[show jD ((L.1,L.2.1,L.2.2),(L.2.1.length:Int))=_ from gb L L.2.1.length,aa7,dN (show¬L.2.1.length<L.2.1.length by omega)]
    rfl
  · simp[kU];rw[show j6 ((L.1,L.2.1,L.2.2),(L.2.1.length:Int),0,0,0)=_ from qm L L.2.1.length (0,0),aa7,dN (show¬L.2.1.length<L.2.1.length by omega)]
    rfl
 have bad:=λ(F:List (List UInt8)) (k c l M) hc=>aao h F (S.ss.map bD,S.cs,S.ps,S.hs,S.ts) L k c l M hc;intro n
 induction n with
 |zero=>
  intro k D hn hk hs;have e:k=L.2.1.length:=by omega
  subst e;exact .inl (done D hs)
 |succ n ih=>
  intro k D hn hk hs;obtain⟨s1,s4,s3,s2⟩:=hs;by_cases J:k<L.2.1.length
  · have e1:jD ((L.1,L.2.1,L.2.2),k)=some (true,(L,(k:Int))):=by
      have:=gb L k;rw[dY J] at this;exact this
    have e2:j6 ((L.1,L.2.1,L.2.2),k,0,0,0)=some (true,(L,(k:Int),0,0,0)):=by have:=qm L k (0,0);rw[dY J] at this;exact this
    rcases AQ SU D (by omega) L k Y hk with⟨_,hp,U,N⟩ |⟨c,l,M,k',w',hc,ah,U,N⟩
    · have U:ye (L,k)=some (.inl (gh (L.2.1[k]),(L,((k+1:Nat):Int)),())):=U;have Z:=Xd (D.map gh) (gh (L.2.1[k])) (by rw[ae2];omega)
      rw[aby D _ s2 hp] at Z;rcases N with⟨hi,N⟩ |⟨hi,N⟩
      · rw[hi] at Z;refine .inr ⟨3,L.1,aL L (k+1),k+1,D++[L.2.1[k]],by decide,J,?_,?_⟩
        · rw[bJ];simp (disch:=omega) only[K0,nI,e1,U,Z,cL 3 L Y (k+1) J];rfl
        · have O:kU (h,D,S.ss.map bD,S.cs,S.ps,S.hs,S.ts,L.1,L.2.1,L.2.2,k,0,0,0,())=some (.inl (h,D++[L.2.1[k]],S.ss.map bD,S.cs,S.ps,S.hs,S.ts,L.1,L.2.1,L.2.2,((k+1):Int),3,L.1,aL L (k+1),())):=by
            simp only[kU,e2,aa7,cond_true,Mr,N,Fs _ _ (L,((k+1:Nat):Int),3,L.1,aL L (k+1)) (show¬3=0 by decide),fp]
            simp (disch:=omega) only[K0]
          rw[aZ O];exact bad _ _ 3 _ _ (by decide)
      · rw[hi] at Z;have hr:=akb (D.map gh) 4 L Y (k+1) J;have hr:C7 4 (L,((k+1:Nat):Int)) (D.map gh)=_:=hr;by_cases c4:D.length=4
        · refine .inr ⟨2,L.1,aL L (k+1),k+1,D++[L.2.1[k]],by decide,J,?_,?_⟩
          · rw[bJ];simp (disch:=omega) only[K0,nI,e1,U,Z,hr,ae2];rfl
          · have O:kU (h,D,S.ss.map bD,S.cs,S.ps,S.hs,S.ts,L.1,L.2.1,L.2.2,k,0,0,0,())=some (.inl (h,D++[L.2.1[k]],S.ss.map bD,S.cs,S.ps,S.hs,S.ts,L.1,L.2.1,L.2.2,((k+1):Int),2,L.1,aL L (k+1),())):=by
              simp only[kU,e2,aa7,cond_true,Mr,N,mD _ _ L Y (k+1) J,if_pos (show(4:Int)<=D.length by omega),fp]
              simp (disch:=omega) only[K0]
            rw[aZ O];exact bad _ _ 2 _ _ (by decide)
        · have O:nI (h,D.map gh,S.ss.map cu,S.cs.map cy,S.ps.map c7,S.hs.map dP,S.ts.map dX,L.1,L.2.1,L.2.2,(k:Int),())=some (.inl (h,(D++[L.2.1[k]]).map gh,S.ss.map cu,S.cs.map cy,S.ps.map c7,S.hs.map dP,S.ts.map dX,L.1,L.2.1,L.2.2,((k+1:Nat):Int),())):=by
             simp only[nI,e1,aa7,cond_true,U,Z,cond_false,hr,ae2,if_neg c4,fp,ag9];simp (disch:=omega) only[K0];rfl
          have e4:kU (h,D,S.ss.map bD,S.cs,S.ps,S.hs,S.ts,L.1,L.2.1,L.2.2,(k:Int),0,0,0,())=some (.inl (h,D++[L.2.1[k]],S.ss.map bD,S.cs,S.ps,S.hs,S.ts,L.1,L.2.1,L.2.2,((k+1:Nat):Int),0,0,0,())):=by
           simp only[kU,e2,aa7,cond_true,Mr,N,mD _ _ L Y (k+1) J,if_neg (show¬(4:Int)<=(D.length:Int) by omega),fp]
           simp (disch:=omega) only[K0]
          rw[aZ O,aZ e4];exact ih (k+1) (D++[L.2.1[k]]) (by omega) J ⟨by simp,by simp;omega,nR s3 (r8 hi),kZ s2 hp⟩
    · refine .inr ⟨c,l,M,k',D++[w'],hc,ah,?_,?_⟩
      · rw[bJ];simp (disch:=omega) only[K0,nI,e1,U];rfl
      · have O:kU (h,D,S.ss.map bD,S.cs,S.ps,S.hs,S.ts,L.1,L.2.1,L.2.2,(k:Int),0,0,0,())=some (.inl (h,D++[w'],S.ss.map bD,S.cs,S.ps,S.hs,S.ts,L.1,L.2.1,L.2.2,(k':Int),c,l,M,())):=by
          simp[kU,e2,aa7,cond_true,Mr,N,Fs _ _ (L,(k':Int),c,l,M) hc,fp];simp (disch:=omega) only[K0]
        rw[aZ O];exact bad _ _ c _ _ hc
  · have e:k=L.2.1.length:=by omega
    subst e;exact .inl (done D ⟨s1,s4,s3,s2⟩)
theorem apm (S:aU) (D:cR S) (L:aQ) (N:ct L) (k:Nat) (hk:k<=L.2.1.length):
  ry L (Jo (S.ss.map cu) (S.cs.map cy) (S.ps.map c7) (S.hs.map dP) (S.ts.map dX) (L,(k:Int))) (mB qG (S.ss.map bD) S.cs S.ps S.hs S.ts (L,(k:Int),0,0,0)):=by
 have hm:=D.xO;have ar:=ajy S.hs (by omega)
 have hr:=am4 (S.hs.map dP) 16 L N k hk;have hr:Dr 16 (L,k) (S.hs.map dP)=_:=hr;have bad:=λ(a:List UInt8) U (k c l M) hc=>aao a U (S.ss.map bD,S.cs,S.ps,S.hs,S.ts) L k c l M hc;have Y: ∀w {R:Type} (q:Option R),J (([w]:List (List UInt8)).length<=1000000000) q=q:=λw R q=>ai (by simp (disch:=omega) only[K0];omega)
 unfold ry Jo mB QO;simp only[hr,ar,dN (show¬qG=nS by decide),dN (show¬qG=qA by decide),dN (show¬qG=ui by decide),decide_true,cond_true,cond_false,aa7,ae2,mD _ _ L N k hk,fp]
 by_cases c8:S.hs.length=16
 · have hc: ¬(2:Int)=0:=by decide
   refine .inr ⟨2,L.1,aL L k,k,hc,hk,?_,?_⟩
   · simp[if_pos c8];rfl
   · simp[if_pos (show(16:Int)<=S.hs.length by omega),Fi _ _ (L,k,2,L.1,aL L k) hc,aa7,iS _ (L,k,2,L.1,aL L k) hc,Y,bad _ _ _ 2 _ _ hc]
     simp (disch:=omega) only[K0];rfl
 · simp only[if_neg c8,if_neg (show¬16<=(S.hs.length:Int) by omega),ae2,fp]
   rcases AQ abU (S.hs.map (·.1)) (by rw[ae2];omega) L k N hk with⟨h1,hp,ht,F⟩ |⟨c,li,M,O,w,hc,Z,ht,F⟩
   · simp only[id] at ht;have hu:=aj1 (S.hs.map dP) (L.2.1[k]) (by rw[ae2];omega) L N (k+1) h1
     rw[ao2] at hu;rcases F with⟨hi,F⟩ |⟨hi,F⟩
     · have hc: ¬(3:Int)=0:=by decide
       refine .inr ⟨3,L.1,aL L (k+1),k+1,hc,h1,?_,?_⟩
       · simp (disch:=omega) only[K0,ht,hu,hi];rfl
       · simp only[F,aa7,iS _ (L,((k+1:Nat):Int),3,L.1,aL L (k+1)) hc,Y,bad _ _ _ 3 _ _ hc];simp (disch:=omega) only[K0];rfl
     · simp only[ht,F,aa7,hu,hi,af7,if_false,fp];rcases SU L (k+1) N h1 with⟨h2,hx,an,ah⟩ |⟨c,li,M,O,w,hc,Z,an,ah⟩
       · simp only[an,ah,aa7,ae2,fp,Y];rcases anP S L N (L.2.1[k]) L.2.1.length (k+1+1) [L.2.1[k+1]] (by omega) h2 ⟨ab8 1,by show 1<=4;decide,List.nodup_cons.2 ⟨(λg=>by cases g),List.nodup_nil⟩,λd F=>by rw[ah3.1 F];exact hx⟩ with⟨U,⟨g1,g2,g3,g6⟩,g4,g5⟩ |⟨c,li,M,O,U,hc,Z,g4,g5⟩
         · have g4:ab nI (L.2.1[k],[(dn (L.2.1[k+1]))],S.ss.map cu,S.cs.map cy,S.ps.map c7,S.hs.map dP,S.ts.map dX,L.1,L.2.1,L.2.2,((k+1+1:Nat):Int),())=_:=g4;refine .inl ⟨{S with hs:=S.hs++[(L.2.1[k],U)]},L.2.1.length,⟨D.mr,D.ss,D.HQ,D.vm,D.cs,D.H5,D.xL,D.ps,D.HR,?_,?_,?_,D.xI,D.ts,D.HP⟩,ab8 _,?_,?_⟩
           · show(S.hs++[_]).length<=16;simp;omega
           · exact kZ D.hs ⟨hp,g1,g2,g3,g6⟩
           · show((S.hs++[(L.2.1[k],U)]).map (λx:List UInt8×List (List UInt8)=>x.1)).Nodup;rw[ag9];exact nR D.HX (r8 hi)
           · simp only[g4,aa7,ae2,fp];simp (disch:=omega) only[K0];unfold pb;simp[ag9];rfl
           · simp only[g5,aa7];simp (disch:=omega) only[K0];rfl
         · obtain⟨b,g4⟩:=lP g4;have g4:ab nI (L.2.1[k],[(dn (L.2.1[k+1]))],S.ss.map cu,S.cs.map cy,S.ps.map c7,S.hs.map dP,S.ts.map dX,L.1,L.2.1,L.2.2,((k+1+1:Nat):Int),())=_:=g4;refine .inr ⟨c,li,M,O,hc,Z,?_,?_⟩
           · simp only[g4,aa7];rfl
           · simp only[g5,aa7];simp (disch:=omega) only[K0];rfl
       · refine .inr ⟨c,li,M,O,hc,Z,?_,?_⟩
         · simp only[an,aa7];rfl
         · simp only[ah,aa7,Y,bad _ _ _ c _ _ hc];simp (disch:=omega) only[K0];rfl
   · refine .inr ⟨c,li,M,O,hc,Z,?_,?_⟩
     · simp[ht,aa7];rfl
     · simp[F,aa7,iS _ (L,O,c,li,M) hc,Y,bad _ _ _ c _ _ hc];simp (disch:=omega) only[K0];rfl
def P0:aU:=⟨[],[],[],[],[]⟩
def lj (ls:List aQ) (i:Nat) (b:Bool) (S:aU):List aQ×Int×Int×Bool×List (List UInt8×Nat×Bool)×List (List UInt8×Int×List (List UInt8))×List (List UInt8×cP)×List (List UInt8×List Int)×List (List UInt8×Int)×Unit:=
 (ls,(ls.length:Int),(i:Int),b,S.ss.map cu,S.cs.map cy,S.ps.map c7,S.hs.map dP,S.ts.map dX,())
def lf (ls:List aQ) (i:Nat) (S:aU):List aQ×Int×Int×Int×Int×List (List UInt8×List UInt8×List UInt8)×List (List UInt8×List UInt8×List (List UInt8))×List (List UInt8×List UInt8)×List (List UInt8×List (List UInt8))×List (List UInt8×List UInt8)×Unit:=
 (ls,(i:Int),0,0,0,S.ss.map bD,S.cs,S.ps,S.hs,S.ts,())
theorem aqn (ls:List aQ) (h0:0<ls.length) (hn:ls.length<=800) (D:ct ls[0]) (h1:1<=(ls[0]).2.1.length):
  (j5 (lj ls 0 false P0)=some (.inl (lj ls 1 true P0))/\j9 (lf ls 0 P0)=some (.inl (lf ls 1 P0)))\/
  (∃c l J:Int,¬c=0/\wZ (j5 (lj ls 0 false P0)) (dt c l J)/\j9 (lf ls 0 P0)=some (.inr (.inr (c,l,J,())))):=by
 have M: ∀{R:Type} (f:aQ->Option R),(ag ls (((0:Nat):Int))).bind f=f ls[0]:=λf=>au (k:=0) h0 f;generalize Z:ls[0]=L at D h1 M;have O:fh (L,0)=_:=qz L D 0 h1;have U:jg (L,0,0,0,0)=_:=qw L D 0 (0,0) h1;have Y:=D.2.1;unfold lj lf;simp only[j5,j9,M,U,aa7,JF,O];by_cases hi:L.2.1[0]=RT
 · simp (disch:=omega) only[K0,gb];by_cases F:0+1<L.2.1.length
   · refine .inr ⟨1,L.1,aL L (0+1+1),by decide,?_,?_⟩
     · simp (disch:=omega) only[K0,cL 1 L D (0+1+1) F];rfl
     · simp (disch:=omega) only[K0,mI L D (0+1) F,bw]
   · refine .inl ⟨?_,?_⟩
     · grind
     · simp only[mH L (0+1) F,aa7,bw,decide_true,ae8,cond_false]
 · have hc: ¬(1:Int)=0:=by decide
   have hf:=cL 1 L D (0+1) h1;have N:=gF 1 L D (0+1) h1 (0,0) rfl;refine .inr ⟨1,L.1,aL L (0+1),by decide,?_,?_⟩
   · simp (disch:=omega) only[K0,hf];rfl
   · simp (disch:=omega) only[K0,N,iV (L,((0+1:Nat):Int),1,L.1,aL L (0+1)) hc,bw]
theorem arp (ls:List aQ) (i:Nat) (hi:i<ls.length) (h0:0<i) (hn:ls.length<=800) (M:ct ls[i]) (h1:1<=(ls[i]).2.1.length) (S:aU) (hS:cR S):
  (∃U,cR U/\j5 (lj ls i true S)=some (.inl (lj ls (i+1) true U))/\j9 (lf ls i S)=some (.inl (lf ls (i+1) U)))\/
  (∃c li O:Int,¬c=0/\wZ (j5 (lj ls i true S)) (dt c li O)/\j9 (lf ls i S)=some (.inr (.inr (c,li,O,())))):=by
 have hg: ∀{R:Type} (f:aQ->Option R),(ag ls i).bind f=f ls[i]:=λf=>au hi f;generalize a1:ls[i]=L at M h1 hg;have av:fh (L,0)=_:=qz L M 0 h1;have az:jg (L,0,0,0,0)=_:=qw L M 0 (0,0) h1;have aE:=M.2.1;have an:i+1<=4611686018427387904:=by omega
 unfold lj lf;simp only[j5,j9,dY (show(i:Int)<ls.length by omega),hg,az,aa7,cond_false,dY (show(0:Int)<i by omega),JF,av,ae8]
 by_cases c0:L.2.1[0]=nS
 · simp only[c0,decide_true,cond_true];rcases alq S hS L M (0+1) h1 with⟨U,D,Y,Z,J,F⟩ |⟨c,l,O,D,hc,Z,J,F⟩
   · simp only[J,F,aa7,pb,wN,gb];by_cases N:D<L.2.1.length
     · refine .inr ⟨1,L.1,aL L (D+1),by decide,?_,?_⟩
       · simp (disch:=omega) only[K0,cL 1 L M (D+1) N];rfl
       · simp (disch:=omega) only[K0,mI L M D N,bw]
     · refine .inl ⟨U,Y,?_,?_⟩
       · simp (disch:=omega) only[K0]
       · simp only[mH L D N,aa7,bw,decide_true,ae8,cond_false,aH,aw an]
   · obtain⟨b,J⟩:=lP J;obtain⟨t,F,ah⟩:=jj F;refine .inr ⟨c,l,O,hc,?_,?_⟩
     · simp only[J,aa7];rfl
     · simp (disch:=omega) only[K0,F,ah,iV (L,D,c,l,O) hc,bw]
 · simp only[dN c0,cond_false];by_cases c1:L.2.1[0]=qA
   · simp only[c1,dN (show¬qA=nS by decide),decide_true,cond_true,cond_false]
     rcases aoa S hS L M (0+1) h1 with⟨U,D,Y,Z,J,F⟩ |⟨c,l,O,D,hc,Z,J,F⟩
     · simp only[J,F,aa7,pb,wN,gb];by_cases N:D<L.2.1.length
       · refine .inr ⟨1,L.1,aL L (D+1),by decide,?_,?_⟩
         · simp (disch:=omega) only[K0,cL 1 L M (D+1) N];rfl
         · simp (disch:=omega) only[K0,mI L M D N,bw]
       · refine .inl ⟨U,Y,?_,?_⟩
         · simp (disch:=omega) only[K0]
         · simp only[mH L D N,aa7,bw,decide_true,ae8,cond_false,aH,aw an]
     · obtain⟨b,J⟩:=lP J;obtain⟨t,F,ah⟩:=jj F;refine .inr ⟨c,l,O,hc,?_,?_⟩
       · simp only[J,aa7];rfl
       · simp (disch:=omega) only[K0,F,ah,iV (L,D,c,l,O) hc,bw]
   · simp only[dN c1,cond_false];by_cases c2:L.2.1[0]=ui
     · simp only[c2,dN (show¬ui=nS by decide),dN (show¬ui=qA by decide),decide_true,cond_true,cond_false]
       rcases aqm S hS L M (0+1) h1 with⟨U,D,Y,Z,J,F⟩ |⟨c,l,O,D,hc,Z,J,F⟩
       · simp only[J,F,aa7,pb,wN,gb];by_cases N:D<L.2.1.length
         · refine .inr ⟨1,L.1,aL L (D+1),by decide,?_,?_⟩
           · simp (disch:=omega) only[K0,cL 1 L M (D+1) N];rfl
           · simp (disch:=omega) only[K0,mI L M D N,bw]
         · refine .inl ⟨U,Y,?_,?_⟩
           · simp (disch:=omega) only[K0]
           · simp only[mH L D N,aa7,bw,decide_true,ae8,cond_false,aH,aw an]
       · obtain⟨b,J⟩:=lP J;obtain⟨t,F,ah⟩:=jj F;refine .inr ⟨c,l,O,hc,?_,?_⟩
         · simp only[J,aa7];rfl
         · simp (disch:=omega) only[K0,F,ah,iV (L,D,c,l,O) hc,bw]
     · simp only[dN c2,cond_false];by_cases c3:L.2.1[0]=qG
       · simp only[c3,dN (show¬qG=nS by decide),dN (show¬qG=qA by decide),decide_true,cond_true]
         rcases apm S hS L M (0+1) h1 with⟨U,D,Y,Z,J,F⟩ |⟨c,l,O,D,hc,Z,J,F⟩
         · simp only[J,F,aa7,pb,wN,gb];by_cases N:D<L.2.1.length
           · refine .inr ⟨1,L.1,aL L (D+1),by decide,?_,?_⟩
             · simp (disch:=omega) only[K0,cL 1 L M (D+1) N];rfl
             · simp (disch:=omega) only[K0,mI L M D N,bw]
           · refine .inl ⟨U,Y,?_,?_⟩
             · simp (disch:=omega) only[K0]
             · simp only[mH L D N,aa7,bw,decide_true,ae8,cond_false,aH,aw an]
         · obtain⟨b,J⟩:=lP J;obtain⟨t,F,ah⟩:=jj F;refine .inr ⟨c,l,O,hc,?_,?_⟩
           · simp only[J,aa7];rfl
           · simp (disch:=omega) only[K0,F,ah,iV (L,D,c,l,O) hc,bw]
       · simp only[dN c3,cond_false];by_cases c4:L.2.1[0]=tL
         · simp only[c4,dN (show¬tL=nS by decide),dN (show¬tL=qA by decide),dN (show¬tL=qG by decide),decide_true,cond_true,cond_false]
           rcases alg S hS L M (0+1) h1 with⟨U,D,Y,Z,J,F⟩ |⟨c,l,O,D,hc,Z,J,F⟩
           · simp only[J,F,aa7,pb,wN,gb];by_cases N:D<L.2.1.length
             · refine .inr ⟨1,L.1,aL L (D+1),by decide,?_,?_⟩
               · simp (disch:=omega) only[K0,cL 1 L M (D+1) N];rfl
               · simp (disch:=omega) only[K0,mI L M D N,bw]
             · refine .inl ⟨U,Y,?_,?_⟩
               · simp (disch:=omega) only[K0]
               · simp only[mH L D N,aa7,bw,decide_true,ae8,cond_false,aH,aw an]
           · obtain⟨b,J⟩:=lP J;obtain⟨t,F,ah⟩:=jj F;refine .inr ⟨c,l,O,hc,?_,?_⟩
             · simp only[J,aa7];rfl
             · simp (disch:=omega) only[K0,F,ah,iV (L,D,c,l,O) hc,bw]
         · simp only[dN c4,cond_false];have hc: ¬(1:Int)=0:=by decide
           have hf:=cL 1 L M (0+1) h1;have ar:=gF 1 L M (0+1) h1 (0,0) rfl;refine .inr ⟨1,L.1,aL L (0+1),by decide,?_,?_⟩
           · simp only[hf,aa7];rfl
           · simp (disch:=omega) only[K0,mB,ar,iV (L,((0+1:Nat):Int),1,L.1,aL L (0+1)) hc,bw]
def ML (S:aU):Bool×List (List UInt8×Nat×Bool)×List (List UInt8×Int×List (List UInt8))×List (List UInt8×cP)×List (List UInt8×List Int)×List (List UInt8×Int)×Unit:=(true,S.ss.map cu,S.cs.map cy,S.ps.map c7,S.hs.map dP,S.ts.map dX,())
def F7 (ls:List aQ) (S:aU):List aQ×Int×Int×Int×List (List UInt8×List UInt8×List UInt8)×List (List UInt8×List UInt8×List (List UInt8))×List (List UInt8×List UInt8)×List (List UInt8×List (List UInt8))×List (List UInt8×List UInt8)×Unit:=(ls,0,0,0,S.ss.map bD,S.cs,S.ps,S.hs,S.ts,())
theorem asb (ls:List aQ) (an: ∀L∈ls,ct L/\1<=L.2.1.length) (hn:ls.length<=800): ∀(n i:Nat) (S:aU),ls.length - i=n->0<i->i<=ls.length->cR S->
  (∃F,cR F/\ab j5 (lj ls i true S)=some (.inl (ML F))/\ab j9 (lf ls i S)=some (.inl (F7 ls F)))\/
  (∃c li M:Int,¬c=0/\mO (ab j5 (lj ls i true S)) (dt c li M)/\ab j9 (lf ls i S)=some (.inr (c,li,M,()))):=by
 intro n
 induction n with
 |zero=>
  intro i S Z h0 ah N;have e:i=ls.length:=by omega
  subst e;have D:j5 (lj ls ls.length true S)=some (.inr (.inl (ML S))):=by simp[lj,j5,ML]
  have J:j9 (lf ls ls.length S)=some (.inr (.inl (F7 ls S))):=by simp[lf,j9,F7]
  exact .inl ⟨S,N,bk D,bk J⟩
 |succ n ih=>
  intro i S Z h0 ah N;have O:i<ls.length:=by omega
  obtain⟨U,h1⟩:=an _ (ab7 O);rcases arp ls i O h0 hn U h1 S N with⟨F,Y,D,J⟩ |⟨c,li,M,hc,D,J⟩
  · rw[aZ D,aZ J];exact ih (i+1) F (by omega) (by simp) (by omega) Y
  · obtain⟨b,D⟩:=A3 D;refine .inr ⟨c,li,M,hc,?_,bk J⟩;rw[bk D];rfl
theorem asv:cR P0:=⟨ae3 _,(λx h=>by cases h),List.nodup_nil,ae3 _,(λx h=>by cases h),List.nodup_nil,ae3 _,(λx h=>by cases h),List.nodup_nil,ae3 _,(λx h=>by cases h),List.nodup_nil,ae3 _,(λx h=>by cases h),List.nodup_nil⟩
theorem aky (s:List UInt8):(∃S,cR S/\zS s=some (ao S,(0,0,0))/\vO s=some (aC S,(0,0,0)))\/(∃c li D:Int,¬c=0/\zS s=some (([],[],[],[],[]),(c,li,D))/\vO s=some (([],[],[],[],[]),(c,li,D))):=by
 obtain⟨M,N⟩:=Qn s;by_cases h0:(iI s).2.1=0
 · have U:=QH s h0;have Y:=zm s;have Z:=yY s;generalize iI s=R at M N h0 U Y Z;obtain⟨ls,f⟩:=R;have U:=U;subst U;have M:=M;have N:=N
   have hE:(∃L,cR L/\0<ls.length/\ab j5 (lj ls 0 false P0)=some (.inl (ML L))/\ab j9 (lf ls 0 P0)=some (.inl (F7 ls L)))\/
     (∃c li D:Int,¬c=0/\mO (ab j5 (lj ls 0 false P0)) (dt c li D)/\ab j9 (lf ls 0 P0)=some (.inr (c,li,D,())))\/ls=[]:=by
    by_cases O:0<ls.length
    · obtain⟨hL,h1⟩:=M _ (ab7 O);rcases aqn ls O N hL h1 with⟨F,J⟩ |⟨c,l,D,hc,F,J⟩
      · rw[aZ F,aZ J];rcases asb ls M N _ 1 P0 rfl (by simp) O asv with⟨l',h1,h2,h3⟩ |h
        · grind
        · exact .inr (.inl h)
      · obtain⟨b,F⟩:=A3 F;refine .inr (.inl ⟨c,l,D,hc,?_,bk J⟩);rw[bk F];rfl
    · exact .inr (.inr (List.length_eq_zero_iff.1 (by omega)))
   unfold zS vO Pw;simp only[Y,Z,aa7];have q1: ∀{a},ab j5 (lj ls 0 false P0)=a->ab j5 (ls,ls.length,0,false,[],[],[],[],[],())=a:=λh=>h;have q2: ∀{a},ab j9 (lf ls 0 P0)=a->ab j9 (ls,0,0,0,0,[],[],[],[],[],())=a:=λh=>h;rcases hE with⟨L,ah,O,F,J⟩ |⟨c,l,D,hc,F,J⟩ |e
   · refine .inl ⟨L,ah,?_,?_⟩
     · rw[q2 J];simp (disch:=omega) only[K0,F7];rfl
     · rw[q1 F];rfl
   · obtain⟨b,F⟩:=lP F;refine .inr ⟨c,l,D,hc,?_,?_⟩
     · grind
     · rw[q1 F];obtain⟨b1,b2,b3,b4,b5,b6,b7⟩:=b;have an:rZ (dt c l D)=some (c,l,D):=rfl;grind
   · subst e;refine .inr ⟨1,0,0,by decide,?_,?_⟩
     · rw[show ab j9 ([],0,0,0,0,[],[],[],[],[],())=some (.inl ([],0,0,0,[],[],[],[],[],())) from bk rfl];rfl
     · rw[show ab j5 ([],([].length),0,false,[],[],[],[],[],())=some (.inl (false,[],[],[],[],[],())) from bk rfl];rfl
 · grind[zS,vO,zm,yY]
theorem mF {V R:Type} {f:V->Option (V⊕R)} (Inv:V->Prop) (D:V->Nat) (F:R->Prop)
  (h: ∀v,Inv v->(∃v',f v=some (.inl v')/\Inv v'/\D v'<D v)\/(∃r,f v=some (.inr r)/\F r)): ∀v,Inv v-> ∃r,ab f v=some r/\F r:=by
 have: ∀n v,D v=n->Inv v-> ∃r,ab f v=some r/\F r:=by
  intro n
  induction n using Nat.strongRecOn with
  |_ n M=>
   intro v N J;rcases h v J with⟨v',e,L,hm⟩ |⟨r,e,hp⟩
   · rw[aZ e];exact M (D v') (by omega) v' rfl L
   · exact⟨r,bk e,hp⟩
 grind
theorem iN {α R:Type} {o:List α} {k:Nat} (h:k<o.length) (f:α->Option R):(o[((k:Nat):Int).toNat]?).bind f=f o[k]:=by grind
theorem AA (x y:Nat) (h:x+y<4611686018427387904):hf ((x:Int)+(y:Int))=(((x+y)/2:Nat):Int):=by
 have D:IntKind.wrap .u64 ((x:Int)+(y:Int))=((x+y:Nat):Int):=by rw[SP];omega
 have F:(2:Int) ^(min (1:Int).toNat (IntKind.bits .u64))=2:=by decide
 unfold hf;rw[D,F,Int.fdiv_eq_ediv_of_nonneg _ (by decide)]
 have J:((x+y:Nat):Int)/2=(((x+y)/2:Nat):Int):=by omega
 rw[J];exact wrap_i64 (by omega)
theorem swap_perm {α:Type} {o:List α} {i j:Nat} (D:i<o.length) (F:j<o.length):((o.set i o[j]).set j o[i]).Perm o:=List.set_set_perm D F
theorem Fv {α:Type} {o:List α} {i j:Nat} (D:i<o.length) (F:j<o.length) (t:Nat):((o.set i o[j]).set j o[i])[t]? =o[if t=j then i else if t=i then j else t]? :=by grind
def vh (a b n t:Nat):Nat:=if a<=t/\t<a+n then b+(t - a) else if b<=t/\t<b+n then a+(t - b) else t
def fR (a m b t:Nat):Nat:=if a<=t/\t<a+(b - m) then t+(m - a) else if a+(b - m)<=t/\t<b then t - (b - m) else t
def iL {α:Type} (o o':List α) (f:Nat->Nat):Prop:=o'.Perm o/\ ∀t:Nat,o'[t]? =o[f t]?
theorem iL.len {α:Type} {o o':List α} {f:Nat->Nat} (h:iL o o' f):o'.length=o.length:=h.1.length_eq
structure il {α:Type} (P:α->Prop) (cf:α->α->Option Int) (c:α->α->Int):Prop where
 is: ∀x y,P x->P y->cf x y=some (c x y)
 trans: ∀x y z,P x->P y->P z-> ¬c y x<0-> ¬c z y<0-> ¬c z x<0
 total: ∀x y,P x->P y->c x y<0-> ¬c y x<0
 asP: ∀x y,P x->P y-> ¬c x y<0-> ¬c y x<0->x=y
def cz {α:Type} (c:α->α->Int) (o:List α) (a b:Nat):Prop:= ∀i j x y,a<=i->i<j->j<b->o[i]? =some x->o[j]? =some y-> ¬c y x<0
theorem cz.le {α:Type} {P:α->Prop} {cf:α->α->Option Int} {c:α->α->Int} (hc:il P cf c) {o:List α} (M: ∀x∈o,P x) {a b:Nat} (h:cz c o a b) {i j:Nat} {x y:α} (h1:a<=i) (h2:i<=j) (L:j<b) (F:o[i]? =some x) (D:o[j]? =some y): ¬c y x<0:=by
 rcases Nat.lt_or_eq_of_le h2 with h2 |h2
 · exact h i j x y h1 h2 L F D
 · subst h2;rw[F] at D;injection D with D;subst D;have J:=M x (List.mem_of_getElem? F);exact λg=>hc.total x x J J g g
theorem cz.mono {α:Type} {c:α->α->Int} {o:List α} {a b D F:Nat} (h:cz c o a b) (h1:a<=D) (h2:F<=b):cz c o D F:=
 λi j x y g1 g2 g3=>h i j x y (by omega) g2 (by omega)
theorem cz.none {α:Type} {c:α->α->Int} {o:List α} {a b:Nat} (h:b<=a+1):cz c o a b:=λi j x y g1 g2 g3=>by omega
def Mv {α:Type} (o o':List α) (a b:Nat):Prop:=o'.Perm o/\ ∃f:Nat->Nat,(∀t:Nat,o'[t]? =o[f t]?)/\(∀t,t<a\/b<=t->f t=t)/\(∀t,a<=t->t<b->a<=f t/\f t<b)
theorem Mv.len {α:Type} {o o':List α} {a b:Nat} (h:Mv o o' a b):o'.length=o.length:=h.1.length_eq
theorem Mv.refl {α:Type} (o:List α) (a b:Nat):Mv o o a b:=⟨.refl _,λt=>t,λ_=>rfl,λ_ _=>rfl,λ_ h1 h2=>⟨h1,h2⟩⟩
theorem Mv.trans {α:Type} {o F J:List α} {a b:Nat} (h:Mv o F a b) (h':Mv F J a b):Mv o J a b:=by
 obtain⟨p,f,f1,f2,f3⟩:=h;obtain⟨q,g,g1,g2,g3⟩:=h';refine⟨q.trans p,λt=>f (g t),λt=>by rw[g1,f1],λt D=>by show f (g t)=t;rw[g2 t D,f2 t D],λt h1 h2=>?_⟩
 grind
theorem Mv.mono {α:Type} {o o':List α} {a b D F:Nat} (h:Mv o o' a b) (h1:D<=a) (h2:b<=F):Mv o o' D F:=by
 obtain⟨p,f,f1,f2,f3⟩:=h;refine⟨p,f,f1,λt J=>f2 t (by omega),λt k1 k2=>?_⟩
 grind
theorem Mv.of {α:Type} {o o':List α} {f:Nat->Nat} {a b:Nat} (h:iL o o' f) (h1: ∀t,t<a\/b<=t->f t=t) (h2: ∀t,a<=t->t<b->a<=f t/\f t<b):Mv o o' a b:=⟨h.1,f,h.2,h1,h2⟩
theorem Mv.out {α:Type} {o o':List α} {a b:Nat} (h:Mv o o' a b) {t:Nat} (D:t<a\/b<=t):o'[t]? =o[t]? :=by obtain⟨p,f,f1,f2,f3⟩:=h;rw[f1,f2 t D]
theorem Mv.inn {α:Type} {o o':List α} {a b:Nat} (h:Mv o o' a b) {t:Nat} (h1:a<=t) (h2:t<b): ∃s,a<=s/\s<b/\o'[t]? =o[s]? :=by obtain⟨p,f,f1,f2,f3⟩:=h;exact⟨f t,(f3 t h1 h2).1,(f3 t h1 h2).2,f1 t⟩
theorem Mv.all {α:Type} {P:α->Prop} {o o':List α} {a b:Nat} (h:Mv o o' a b) (D: ∀x∈o,P x): ∀x∈o',P x:=λx F=>D x (h.1.subset F)
theorem ap8 {α:Type} {o:List α} {i j a b:Nat} (D:i<o.length) (F:j<o.length) (h1:a<=i) (h2:i<b) (J:a<=j) (L:j<b):Mv o ((o.set i o[j]).set j o[i]) a b:=
 ⟨swap_perm D F,λt=>if t=j then i else if t=i then j else t,Fv D F,λt M=>by show(if t=j then i else if t=i then j else t)=t;simp (disch:=omega) only[K0],λt k1 k2=>by show a<=(if t=j then i else if t=i then j else t)/\(if t=j then i else if t=i then j else t)<b;split<;>(try split)<;>omega⟩
def kp {α:Type} (c:α->α->Int) (o o':List α) (a b:Nat):Prop:=Mv o o' a b/\cz c o' a b
theorem kp.len {α:Type} {c:α->α->Int} {o o':List α} {a b:Nat} (h:kp c o o' a b):o'.length=o.length:=h.1.len
theorem P7 {α:Type} {P:α->Prop} {cf:α->α->Option Int} {c:α->α->Int} (hc:il P cf c): ∀{l m:List α},(∀x∈l,P x)->l.Perm m->l.Pairwise (λx y=> ¬c y x<0)->m.Pairwise (λx y=> ¬c y x<0)->l=m
 |[],m,_,h,_,_=>(List.nil_perm.1 h).symm
 |x::s,[],_,h,_,_=>(List.perm_nil.1 h)
 |x::s,y::t,J,h,h1,h2=>by
  have F:x∈y::t:=h.subset am5;have D:y∈x::s:=h.symm.subset am5
  have e:x=y:=by
   rcases ai3.1 F with F |F
   · omega
   · rcases ai3.1 D with D |D
     · grind
     · have g1:=(List.pairwise_cons.1 h1).1 y D;have g2:=(List.pairwise_cons.1 h2).1 x F;exact hc.asP x y (J x am5) (J y (as3 _ D)) g2 g1
  subst e;rw[P7 hc (by grind) (h.cons_inv) (List.pairwise_cons.1 h1).2 (List.pairwise_cons.1 h2).2]
theorem ahZ {α:Type} {c:α->α->Int} {o:List α} (h:cz c o 0 o.length):o.Pairwise (λx y=> ¬c y x<0):=by rw[aw8];intro i j F D J;exact h i j _ _ (ae3 _) J D (ae6 F) (ae6 D)
theorem cz.join {α:Type} {c:α->α->Int} {o:List α} {a m b:Nat} (h1:cz c o a m) (h2:cz c o m b) (J: ∀i j x y,a<=i->i<m->m<=j->j<b->o[i]? =some x->o[j]? =some y-> ¬c y x<0):cz c o a b:=by
 intro i j x y g1 g2 g3 D F;by_cases c1:j<m
 · exact h1 i j x y g1 g2 c1 D F
 · by_cases c2:i<m
   · grind
   · exact h2 i j x y (by omega) g2 g3 D F
theorem cz.same {α:Type} {c:α->α->Int} {o o':List α} {a b:Nat} (h:cz c o a b) (he: ∀t,a<=t->t<b->o'[t]? =o[t]?):cz c o' a b:=by
 intro i j x y g1 g2 g3 D F;rw[he i g1 (by omega)] at D
 rw[he j (by omega) g3] at F
 exact h i j x y g1 g2 g3 D F
def br {α:Type} (p q:Option α):Prop:= ∀r,p=some r->q=some r
theorem br.refl {α:Type} (p:Option α):br p p:=λ_ h=>h
theorem br.bind {α β:Type} {p q:Option α} {k D:α->Option β} (h:br p q) (hk: ∀x,br (k x) (D x)):br (p.bind k) (q.bind D):=by intro r F;obtain⟨x,h1,h2⟩:=at8.1 F;exact at8.2 ⟨x,h x h1,hk x r h2⟩
theorem br.J {α:Type} {c:Prop} {_:Decidable c} {p q:Option α} (h:br p q):br (J c p) (J c q):=by
 intro r D;by_cases hc:c
 · rw[ai hc] at D⊢;exact h r D
 · rw[show Fx.J c p=none from if_neg hc] at D;cases D
theorem br.cond {α:Type} {b:Bool} {p q D F:Option α} (h1:br p D) (h2:br q F):br (bif b then p else q) (bif b then D else F):=by grind
theorem br.loop {V R:Type} {f g:V->Option (V⊕R)} (h:f=g) (v:V):br (ab f v) (ab g v):=by rw[h];exact br.refl _
variable {α γ:Type} {call:α->α->γ->Option Int}
theorem Qw (cmp:γ) (a b n:Nat) (o:List α) (h1:a+n<=b) (h2:b+n<=o.length) (Y:o.length<=100000000):
  ∃o',vB (a:Int) (b:Int) (n:Int) cmp o=some o'/\iL o o' (vh a b n):=by
 have main:=mF (f:=CV)
  (λv=> ∃(i:Nat) (D:List α),v=((a:Int),(b:Int),(n:Int),(i:Int),D,())/\i<=n/\iL o D (vh a b i))
  (fun v=>(v.2.2.1 - v.2.2.2.1).toNat) (λr=>iL o r.1 (vh a b n)) (λv O=>by
   obtain⟨i,D,rfl,U,hm⟩:=O;have hlen:=hm.len;by_cases c:i<n
   · have J:b+i<D.length:=by omega
     have F:a+i<D.length:=by omega
     have L:b+i=((b+i:Nat):Int):=rfl;have M:a+i=((a+i:Nat):Int):=rfl;have c1:0<=(b+i)/\(b+i)<D.length:=by omega
     have c2:0<=(a+i)/\(a+i)<D.length:=by omega
     refine .inl ⟨(a,b,n,(i+1),(D.set (a+i) D[b+i]).set (b+i) D[a+i],()),?_,⟨i+1,_,rfl,c,(swap_perm F J).trans hm.1,λt=>?_⟩,?_⟩
     · simp only[CV,cond_true,L,M,aw (show b+i<=4611686018427387904 by omega),av0,iN J,iN F]
       rw[iN (by grind)]
       simp (disch:=omega) only[K0]
     · rw[Fv F J,hm.2];congr 1;unfold vh
       repeat' split
       all_goals omega
     · show((n:Int) - ((i+1):Int)).toNat<((n:Int) - (i:Int)).toNat;omega
   · have e:i=n:=by omega
     subst e;refine .inr ⟨(D,()),?_,hm⟩;simp[CV,decide_false])
 obtain⟨r,e,N⟩:=main (a,b,n,(0:Int),o,()) ⟨0,o,rfl,ae3 _,.refl _,λt=>by
  unfold vh;congr 1;repeat' split
  all_goals omega⟩
 refine⟨r.1,?_,N⟩;unfold vB;rw[show ab CV (a,b,n,0,o,())=some r from e];rfl
theorem aoB (cmp:γ) (a m b:Nat) (o:List α) (h1:a<m) (h2:m<b) (h3:b<=o.length) (hl:o.length<=100000000):
  ∃o',vK (a:Int) (m:Int) (b:Int) cmp o=some o'/\iL o o' (fR a m b):=by
 have main:=mF (f:=vF)
  (λv=> ∃(i j:Nat) (D:List α),v=((m:Int),cmp,(i:Int),(j:Int),D,())/\0<i/\0<j/\i<=m - a/\j<=b - m/\D.Perm o/\ ∀t:Nat,D[fR (m - i) m (m+j) t]? =o[fR a m b t]?)
  (fun v=>(v.2.2.1+v.2.2.2.1).toNat) (λr=> ∃(i:Nat) (D:List α),r=((m:Int),cmp,(i:Int),D,())/\0<i/\i<=m - a/\i<=b - m/\D.Perm o/\ ∀t:Nat,D[fR (m - i) m (m+i) t]? =o[fR a m b t]?) (λv hv=>by
   obtain⟨i,j,D,rfl,U,hj,Y,Z,hp,hm⟩:=hv;have hlen:=hp.length_eq;have N:(m:Int) - (i:Int)=((m - i:Nat):Int):=by omega
   by_cases c:i=j
   · subst c;refine .inr ⟨_,?_,i,D,rfl,U,Y,Z,hp,hm⟩;simp[vF,decide_true,ae8,cond_false]
   · by_cases c2:j<i
     · obtain⟨J,M,F⟩:=Qw cmp (m - i) m j D (by omega) (by omega) (by omega)
       have L:(i:Int) - (j:Int)=((i - j:Nat):Int):=by omega
       refine .inl ⟨((m:Int),cmp,((i - j:Nat):Int),(j:Int),J,()),?_,⟨i - j,j,J,rfl,by omega,hj,by omega,Z,F.1.trans hp,λt=>?_⟩,?_⟩
       · simp only[vF,dN (show¬(i:Int)=(j:Int) by omega),am7,cond_true,dY (show(j:Int)<(i:Int) by omega),N,L,aw (show m - i<=4611686018427387904 by omega),M,aa7,aw (show i - j<=4611686018427387904 by omega),ai F.len.symm]
       · rw[F.2,<-hm];congr 1;unfold vh fR
         repeat' split
         all_goals omega
       · show(((i - j:Nat):Int)+((j:Nat):Int)).toNat<(((i:Nat):Int)+((j:Nat):Int)).toNat;omega
     · obtain⟨J,M,F⟩:=Qw cmp (m - i) (m+j - i) i D (by omega) (by omega) (by omega)
       have L:(j:Int) - (i:Int)=((j - i:Nat):Int):=by omega
       have O:(m:Int)+(j:Int)=((m+j:Nat):Int):=rfl;have e4:((m+j:Nat):Int) - (i:Int)=((m+j - i:Nat):Int):=by omega
       refine .inl ⟨((m:Int),cmp,(i:Int),((j - i:Nat):Int),J,()),?_,⟨i,j - i,J,rfl,U,by omega,Y,by omega,F.1.trans hp,λt=>?_⟩,?_⟩
       · simp only[vF,dN (show¬(i:Int)=(j:Int) by omega),am7,cond_true,cond_false,dN (show¬(j:Int)<(i:Int) by omega),N,O,e4,L,aw (show m - i<=4611686018427387904 by omega),aw (show m+j<=4611686018427387904 by omega),aw (show m+j - i<=4611686018427387904 by omega),M,aa7,aw (show j - i<=4611686018427387904 by omega),ai F.len.symm]
       · rw[F.2,<-hm];congr 1;unfold vh fR
         repeat' split
         all_goals omega
       · show(((i:Nat):Int)+((j - i:Nat):Int)).toNat<(((i:Nat):Int)+((j:Nat):Int)).toNat;omega)
 obtain⟨r,e,i,D,rfl,U,Y,ah,hp,hm⟩:=main ((m:Int),cmp,((m - a:Nat):Int),((b - m:Nat):Int),o,()) ⟨m - a,b - m,o,rfl,by omega,by omega,ab8 _,ab8 _,.refl _,λt=>by congr 1;rw[show m - (m - a)=a by omega,show m+(b - m)=b by omega]⟩
 have hlen:=hp.length_eq;obtain⟨J,M,F⟩:=Qw cmp (m - i) m i D (by omega) (by omega) (by omega)
 refine⟨J,?_,F.1.trans hp,λt=>?_⟩
 · unfold vK;have N:(m:Int) - (a:Int)=((m - a:Nat):Int):=by omega
   have L:(b:Int) - (m:Int)=((b - m:Nat):Int):=by omega
   have O:(m:Int) - (i:Int)=((m - i:Nat):Int):=by omega
   simp (disch:=omega) only[K0,N,L,e,O,M]
 · rw[F.2,<-hm];congr 1;unfold vh fR
   repeat' split
   all_goals omega
variable {α γ:Type} {call:α->α->γ->Option Int}
theorem al3 (cmp:γ) {P:α->Prop} {c:α->α->Int} (hc:il P (λx y=>call x y cmp) c) (a b i:Nat) (o:List α) (hP: ∀x∈o,P x) (h1:a<=i) (h2:i<b) (h3:b<=o.length) (hl:o.length<=100000000) (hs:cz c o a i):
  ∃o',ab (tf call) ((a:Int),(b:Int),cmp,(i:Int),(i:Int),o,())=some ((a:Int),(b:Int),cmp,(i:Int),o',())/\Mv o o' a b/\cz c o' a (i+1):=by
 have main:=mF (f:=(tf call))
  (λv=> ∃(j:Nat) (J:List α),v=((a:Int),(b:Int),cmp,(i:Int),(j:Int),J,())/\a<=j/\j<=i/\Mv o J a b/\ ∀p q x y,a<=p->p<q->q<=i->q≠j->J[p]? =some x->J[q]? =some y-> ¬c y x<0)
  (fun v=>(v.2.2.2.2.1).toNat) (λr=> ∃o',r=((a:Int),(b:Int),cmp,(i:Int),o',())/\Mv o o' a b/\cz c o' a (i+1)) (λv hv=>by
   obtain⟨j,J,rfl,hj,ar,hm,N⟩:=hv;have hlen:=hm.len;have Z:=hm.all hP;by_cases d:a<j
   · have U:j<J.length:=by omega
     have L:j - 1<J.length:=by omega
     have e1:j - 1=((j - 1:Nat):Int):=by omega
     have c1:0<=(j:Int)/\j<(J.length:Int):=by omega
     have c2:0<=((j - 1:Nat):Int)/\((j - 1:Nat):Int)<J.length:=by omega
     have p0:=Z _ (ab7 U);have p1:=Z _ (ab7 L);have ah:call J[j] J[j - 1] cmp=some (c J[j] J[j - 1]):=hc.is _ _ p0 p1;by_cases Y:c J[j] J[j - 1]<0
     · refine .inl ⟨(a,b,cmp,i,((j - 1:Nat):Int),(J.set j J[j - 1]).set (j - 1) J[j],()),?_,⟨j - 1,_,rfl,by omega,by omega,hm.trans (ap8 U L (by omega) (by omega) (by omega) (by omega)),?_⟩,?_⟩
       · simp only[tf,dY (show(a:Int)<j by omega),cond_true,av0,ai c1,iN U,e1,aw (show j - 1<=4611686018427387904 by omega),ai c2,iN L,ah,aa7,dY Y]
         rw[iN (by rw[av0];exact L)]
         simp[ae9]
       · intro p q x y g1 g2 g3 g4 D F;rw[Fv U L] at D F;by_cases M:q=j
         · subst M;rw[if_neg (by omega),if_pos rfl] at F
           by_cases O:p=q - 1
           · subst O;rw[if_pos rfl,ae6 U] at D;rw[ae6 L] at F;injection D with D;injection F with F;subst D;subst F;exact hc.total _ _ p0 p1 Y
           · simp (disch:=omega) only[K0] at D;exact N p (q - 1) x y g1 (by omega) (by omega) (by omega) D F
         · simp (disch:=omega) only[K0] at F;by_cases O:p=j - 1
           · subst O;rw[if_pos rfl] at D;exact N j q x y (by omega) (by omega) g3 M D F
           · rw[if_neg O] at D;by_cases e4:p=j
             · subst e4;rw[if_pos rfl] at D;exact N (p - 1) q x y (by omega) (by omega) g3 M D F
             · rw[if_neg e4] at D;exact N p q x y g1 g2 g3 M D F
       · show(((j - 1:Nat):Int)).toNat<((j:Int)).toNat;omega
     · refine .inr ⟨_,?_,J,rfl,hm,?_⟩
       · simp (disch:=omega) only[K0,tf,e1,ah]
       · intro p q x y g1 g2 g3 D F;by_cases M:q=j
         · subst M;have av:=F;rw[ae6 U] at F;cases F;by_cases O:p=q - 1
           · subst O;rw[ae6 L] at D;cases D;exact Y
           · have:=N p (q - 1) x _ g1 (by omega) (by omega) (by omega) D (ae6 L)
             exact hc.trans _ _ _ (Z x (List.mem_of_getElem? D)) p1 p0 this Y
         · exact N p q x y g1 g2 (by omega) M D F
   · have e:j=a:=by omega
     subst e;refine .inr ⟨_,?_,J,rfl,hm,?_⟩
     · simp[tf,ak0,decide_false,cond_false]
     · intro p q x y g1 g2 g3 D F;exact N p q x y g1 g2 (by omega) (by omega) D F)
 obtain⟨r,e,o',rfl,hm,an⟩:=main (a,b,cmp,i,i,o,()) ⟨i,o,rfl,h1,ab8 _,Mv.refl _ _ _,λp q x y g1 g2 g3 g4 D F=>hs p q x y g1 g2 (by omega) D F⟩
 exact⟨o',e,hm,an⟩
theorem XA (cmp:γ) {P:α->Prop} {c:α->α->Int} (hc:il P (λx y=>call x y cmp) c) (a b:Nat) (o:List α) (J: ∀x∈o,P x) (h1:a<=b) (Y:b<=o.length) (hl:o.length<=100000000):
  ∃o',(vx call) (a:Int) (b:Int) cmp o=some o'/\kp c o o' a b:=by
 have main:=mF (f:=(yk call))
  (λv=> ∃(i:Nat) (D:List α),v=((a:Int),(b:Int),cmp,(i:Int),D,())/\a+1<=i/\(i<=b\/i=a+1)/\Mv o D a b/\cz c D a i)
  (fun v=>(b - v.2.2.2.1).toNat) (λr=>kp c o r.1 a b) (λv M=>by
   obtain⟨i,D,rfl,Z,ah,hm,hs⟩:=M;have hlen:=hm.len;by_cases d:i<b
   · obtain⟨F,N,O,U⟩:=al3 cmp hc a b i D (hm.all J) (by omega) d (by omega) (by omega) hs
     refine .inl ⟨(a,b,cmp,(i+1),F,()),?_,⟨i+1,F,rfl,by omega,by omega,hm.trans O,U⟩,?_⟩
     · simp (disch:=omega) only[K0,yk,N]
     · show(b - ((i+1):Int)).toNat<(b - (i:Int)).toNat;omega
   · refine .inr ⟨(D,()),?_,hm,hs.mono (ab8 _) (by omega)⟩
     simp (disch:=omega) only[K0,yk])
 obtain⟨r,e,L⟩:=main (a,b,cmp,((a+1:Nat):Int),o,()) ⟨a+1,o,rfl,ab8 _,.inr rfl,Mv.refl _ _ _,cz.none (ab8 _)⟩;refine⟨r.1,?_,L⟩;unfold vx;simp (disch:=omega) only[K0,e]
theorem ar5 (cmp:γ) (rc:Int->Int->Int->γ->List α->Option (List α)) {P:α->Prop} {c:α->α->Int} (hc:il P (λx y=>call x y cmp) c) (a m b:Nat) (o:List α) (L: ∀x∈o,P x) (h0:a<m) (h1:m<=b) (h3:b<=o.length) (hl:o.length<=100000000) (z:α) (F:o[a]? =some z):
  ∃i,m<=i/\i<=b/\ab ((tn call) rc) ((a:Int),cmp,(m:Int),(b:Int),o,())=some ((a:Int),(i:Int),o,())/\(i=m\/ ∃x,o[i - 1]? =some x/\c x z<0)/\(i=b\/ ∃x,o[i]? =some x/\ ¬c x z<0):=by
 have O:a<o.length:=by omega
 have Y:o[a]=z:=by rw[ae6 O] at F;exact Option.some.inj F
 have pz:=L z (List.mem_of_getElem? F)
 have main:=mF (f:=(tn call) rc)
  (λv=> ∃(i j:Nat),v=((a:Int),cmp,(i:Int),(j:Int),o,())/\m<=i/\i<=j/\j<=b/\(i=m\/ ∃x,o[i - 1]? =some x/\c x z<0)/\(j=b\/ ∃x,o[j]? =some x/\ ¬c x z<0))
  (fun v=>(v.2.2.2.1 - v.2.2.1).toNat) (λr=> ∃(i:Nat),r=((a:Int),(i:Int),o,())/\m<=i/\i<=b/\(i=m\/ ∃x,o[i - 1]? =some x/\c x z<0)/\(i=b\/ ∃x,o[i]? =some x/\ ¬c x z<0)) (λv U=>by
   obtain⟨i,j,rfl,g1,g2,g3,g4,g5⟩:=U;by_cases d:i<j
   · have D:(i+j)/2<o.length:=by omega
     have J:=AA i j (by omega)
     have c1:0<=((i+j)/2)/\((i+j)/2)<o.length:=by omega
     have c2:0<=a/\a<o.length:=by omega
     have e2:aa .i64 (i+j):=bd (by omega)
     have Z:=L _ (ab7 D);have M:call (o[(i+j)/2]) o[a] cmp=some (c (o[(i+j)/2]) z):=by rw[Y];exact hc.is _ _ Z pz
     by_cases N:c (o[(i+j)/2]) z<0
     · refine .inl ⟨(a,cmp,(((i+j)/2+1:Nat):Int),j,o,()),?_,⟨_,_,rfl,by omega,by omega,g3,.inr ⟨_,by rw[Nat.add_sub_cancel];exact ae6 D,N⟩,g5⟩,?_⟩
       · simp (disch:=omega) only[K0,tn,J,M]
       · show(j - (((i+j)/2+1):Int)).toNat<(j - (i:Int)).toNat;omega
     · refine .inl ⟨(a,cmp,i,(((i+j)/2:Nat):Int),o,()),?_,⟨_,_,rfl,g1,by omega,by omega,g4,.inr ⟨_,ae6 D,N⟩⟩,?_⟩
       · simp (disch:=omega) only[K0,tn,J,M]
       · show(((i+j)/2) - (i:Int)).toNat<(j - (i:Int)).toNat;omega
   · have e:i=j:=by omega
     subst e;refine .inr ⟨_,?_,i,rfl,g1,g3,g4,g5⟩;simp[tn])
 obtain⟨r,e,i,rfl,g1,g2,g3,g4⟩:=main (a,cmp,m,b,o,()) ⟨m,b,rfl,ab8 _,h1,ab8 _,.inl rfl,.inl rfl⟩;exact⟨i,g1,g2,e,g3,g4⟩
def mq (a e t:Nat):Nat:=if a<=t/\t<e then t+1 else if t=e then a else t
theorem ar4 (rc:Int->Int->Int->γ->List α->Option (List α)) (a i:Nat) (o:List α) (h1:a+1<=i) (O:i<=o.length) (Y:o.length<=100000000):
  ∃o',ab (yt rc) ((i:Int),(a:Int),o,())=some (o',())/\iL o o' (mq a (i - 1)):=by
 have main:=mF (f:=yt rc)
  (λv=> ∃(k:Nat) (D:List α),v=((i:Int),(k:Int),D,())/\a<=k/\k<=i - 1/\iL o D (mq a k))
  (fun v=>(v.1 - v.2.1).toNat) (λr=>iL o r.1 (mq a (i - 1))) (λv N=>by
   obtain⟨k,D,rfl,hk,U,hm⟩:=N;have hlen:=hm.len;have L:i - 1=((i - 1:Nat):Int):=by omega
   by_cases d:k<i - 1
   · have F:k<D.length:=by omega
     have J:k+1<D.length:=by omega
     have c1:0<=(k:Int)/\k<(D.length:Int):=by omega
     have c2:0<=((k+1:Nat):Int)/\((k+1:Nat):Int)<D.length:=by omega
     refine .inl ⟨(i,(k+1),(D.set k D[k+1]).set (k+1) D[k],()),?_,⟨k+1,_,rfl,by omega,by omega,(swap_perm F J).trans hm.1,λt=>?_⟩,?_⟩
     · simp only[yt,L,aw (show i - 1<=4611686018427387904 by omega),dY (show(k:Int)<((i - 1:Nat):Int) by omega),aH,aw (show k+1<=4611686018427387904 by omega),av0,ai c1,ai c2,iN F,iN J]
       rw[iN (by grind)]
       simp[ae9]
     · rw[Fv F J,hm.2];congr 1;unfold mq
       repeat' split
       all_goals omega
     · show(i - ((k+1):Int)).toNat<(i - (k:Int)).toNat;omega
   · have e:k=i - 1:=by omega
     subst e;refine .inr ⟨(D,()),?_,hm⟩;simp[yt,L,aw (show i - 1<=4611686018427387904 by omega)])
 obtain⟨r,e,M⟩:=main (i,a,o,()) ⟨a,o,rfl,ab8 _,by omega,.refl _,λt=>by
  congr 1;unfold mq;repeat' split
  all_goals omega⟩
 exact⟨r.1,e,M⟩
theorem ar3 (cmp:γ) (rc:Int->Int->Int->γ->List α->Option (List α)) {P:α->Prop} {c:α->α->Int} (hc:il P (λx y=>call x y cmp) c) (a m:Nat) (o:List α) (L: ∀x∈o,P x) (h1:a<=m) (O:m<o.length) (hl:o.length<=100000000) (z:α) (F:o[m]? =some z):
  ∃i,a<=i/\i<=m/\ab ((tl call) rc) ((m:Int),cmp,(a:Int),(m:Int),o,())=some ((m:Int),(i:Int),o,())/\(i=a\/ ∃x,o[i - 1]? =some x/\ ¬c z x<0)/\(i=m\/ ∃x,o[i]? =some x/\c z x<0):=by
 have Y:o[m]=z:=by rw[ae6 O] at F;exact Option.some.inj F
 have pz:=L z (List.mem_of_getElem? F)
 have main:=mF (f:=(tl call) rc)
  (λv=> ∃(i j:Nat),v=((m:Int),cmp,(i:Int),(j:Int),o,())/\a<=i/\i<=j/\j<=m/\(i=a\/ ∃x,o[i - 1]? =some x/\ ¬c z x<0)/\(j=m\/ ∃x,o[j]? =some x/\c z x<0))
  (fun v=>(v.2.2.2.1 - v.2.2.1).toNat) (λr=> ∃(i:Nat),r=((m:Int),(i:Int),o,())/\a<=i/\i<=m/\(i=a\/ ∃x,o[i - 1]? =some x/\ ¬c z x<0)/\(i=m\/ ∃x,o[i]? =some x/\c z x<0)) (λv U=>by
   obtain⟨i,j,rfl,g1,g2,g3,g4,g5⟩:=U;by_cases d:i<j
   · have D:(i+j)/2<o.length:=by omega
     have J:=AA i j (by omega)
     have c1:0<=((i+j)/2)/\((i+j)/2)<o.length:=by omega
     have c2:0<=m/\m<o.length:=by omega
     have e2:aa .i64 (i+j):=bd (by omega)
     have Z:=L _ (ab7 D);have M:call o[m] (o[(i+j)/2]) cmp=some (c z (o[(i+j)/2])):=by rw[Y];exact hc.is _ _ pz Z
     by_cases N:c z (o[(i+j)/2])<0
     · refine .inl ⟨(m,cmp,i,(((i+j)/2:Nat):Int),o,()),?_,⟨_,_,rfl,g1,by omega,by omega,g4,.inr ⟨_,ae6 D,N⟩⟩,?_⟩
       · simp (disch:=omega) only[K0,tl,J,M]
       · show(((i+j)/2) - (i:Int)).toNat<(j - (i:Int)).toNat;omega
     · refine .inl ⟨(m,cmp,(((i+j)/2+1:Nat):Int),j,o,()),?_,⟨_,_,rfl,by omega,by omega,g3,.inr ⟨_,by rw[Nat.add_sub_cancel];exact ae6 D,N⟩,g5⟩,?_⟩
       · simp (disch:=omega) only[K0,tl,J,M]
       · show(j - (((i+j)/2+1):Int)).toNat<(j - (i:Int)).toNat;omega
   · have e:i=j:=by omega
     subst e;refine .inr ⟨_,?_,i,rfl,g1,g3,g4,g5⟩;simp[tl])
 obtain⟨r,e,i,rfl,g1,g2,g3,g4⟩:=main (m,cmp,a,m,o,()) ⟨a,m,rfl,ab8 _,h1,ab8 _,.inl rfl,.inl rfl⟩;exact⟨i,g1,g2,e,g3,g4⟩
def lZ (i m t:Nat):Nat:=if i<t/\t<=m then t - 1 else if t=i then m else t
theorem ar2 (rc:Int->Int->Int->γ->List α->Option (List α)) (i m:Nat) (o:List α) (h1:i<=m) (O:m<o.length) (Y:o.length<=100000000):
  ∃o',ab (yr rc) ((i:Int),(m:Int),o,())=some (o',())/\iL o o' (lZ i m):=by
 have main:=mF (f:=yr rc)
  (λv=> ∃(k:Nat) (D:List α),v=((i:Int),(k:Int),D,())/\i<=k/\k<=m/\iL o D (lZ k m))
  (fun v=>(v.2.1).toNat) (λr=>iL o r.1 (lZ i m)) (λv N=>by
   obtain⟨k,D,rfl,hk,U,hm⟩:=N;have hlen:=hm.len;by_cases d:i<k
   · have F:k<D.length:=by omega
     have J:k - 1<D.length:=by omega
     have L:k - 1=((k - 1:Nat):Int):=by omega
     have c1:0<=(k:Int)/\k<(D.length:Int):=by omega
     have c2:0<=((k - 1:Nat):Int)/\((k - 1:Nat):Int)<D.length:=by omega
     refine .inl ⟨(i,((k - 1:Nat):Int),(D.set k D[k - 1]).set (k - 1) D[k],()),?_,⟨k - 1,_,rfl,by omega,by omega,(swap_perm F J).trans hm.1,λt=>?_⟩,?_⟩
     · simp only[yr,L,aw (show k - 1<=4611686018427387904 by omega),dY (show(i:Int)<k by omega),av0,ai c1,ai c2,iN F,iN J]
       rw[iN (by grind)]
       simp[ae9]
     · rw[Fv F J,hm.2];congr 1;unfold lZ
       repeat' split
       all_goals omega
     · show(((k - 1:Nat):Int)).toNat<((k:Int)).toNat;omega
   · have e:k=i:=by omega
     subst e;refine .inr ⟨(D,()),?_,hm⟩;simp[yr])
 obtain⟨r,e,M⟩:=main (i,m,o,()) ⟨m,o,rfl,h1,ab8 _,.refl _,λt=>by
  congr 1;unfold lZ;repeat' split
  all_goals omega⟩
 exact⟨r.1,e,M⟩
section
variable {α:Type} {P:α->Prop} {cf:α->α->Option Int} {c:α->α->Int}
theorem acW {s m e t:Nat} (h:t<s):fR s m e t=t:=by grind[fR]
theorem acV {s m e t:Nat} (h1:s<=t) (h2:t<s+(e - m)):fR s m e t=t+(m - s):=by grind[fR]
theorem Ug {s m e t:Nat} (h1:s+(e - m)<=t) (h2:t<e):fR s m e t=t - (e - m):=by grind[fR]
theorem Uf {s m e t:Nat} (h0:s+(e - m)<=e) (h:e<=t):fR s m e t=t:=by grind[fR]
def HL (c:α->α->Int) (o:List α) (i j:Nat):Prop:= ∃x y,o[i]? =some x/\o[j]? =some y/\c x y<0
def HM (c:α->α->Int) (o:List α) (i j:Nat):Prop:= ∃x y,o[i]? =some x/\o[j]? =some y/\ ¬c x y<0
theorem aop (hc:il P cf c) {o M:List α} (Y: ∀x∈o,P x) {a m b s e mid:Nat} (h1:a<m) (h2:m<b) (h3:b<=o.length) (he:e+s=mid+m) (ah:a<=s) (az:s<=m) (an:m<=e) (ar:e<=b) (av:s<=mid/\mid<=e)
  (S1:cz c o a m) (O:cz c o m b)
  (hA:(a=s\/e=b)\/HM c o e (s - 1))
  (U:(e=m\/s=m)\/HL c o (e - 1) s)
  (L:iL o M (fR s m e)):
  Mv o M a b/\cz c M a s/\cz c M s mid/\cz c M mid e/\cz c M e b/\(∀i j x y,a<=i->i<mid->mid<=j->j<b->M[i]? =some x->M[j]? =some y-> ¬c y x<0):=by
 have J: ∀{i:Nat} {x:α},o[i]? =some x->P x:=λh=>Y _ (List.mem_of_getElem? h);refine⟨Mv.of L (λt ht=>?_) (λt k1 k2=>?_),?_,?_,?_,?_,?_⟩
 · grind[fR,L.2]
 · grind[fR,L.2]
 · intro i j x y g1 g2 g3 F D;rw[L.2,acW (by omega)] at F D
   exact S1 i j x y g1 g2 (by omega) F D
 · intro i j x y g1 g2 g3 F D;rw[L.2,acV (by omega) (by omega)] at F D
   exact O _ _ x y (by omega) (by omega) (by omega) F D
 · intro i j x y g1 g2 g3 F D;rw[L.2,Ug (by omega) (by omega)] at F D
   exact S1 _ _ x y (by omega) (by omega) (by omega) F D
 · intro i j x y g1 g2 g3 F D;rw[L.2,Uf (by omega) (by omega)] at F D
   exact O _ _ x y (by omega) (by omega) (by omega) F D
 · intro i j x y g1 g2 g3 g4 F D;by_cases d1:i<s
   · rw[L.2,acW d1] at F;by_cases d2:j<e
     · rw[L.2,Ug (by omega) d2] at D
       exact S1 _ _ x y g1 (by omega) (by omega) F D
     · rw[L.2,Uf (by omega) (by omega)] at D
       rcases hA with(hA |hA) |⟨u,v,hu,N,hA⟩
       · omega
       · omega
       · have Z:=S1.le hc Y g1 (show i<=s - 1 by omega) (by omega) F N
         have q2:=O.le hc Y (show m<=e by omega) (show e<=j by omega) g4 hu D
         exact hc.trans x v y (J F) (J N) (J D) Z (hc.trans v u y (J N) (J hu) (J D) hA q2)
   · rw[L.2,acV (by omega) (by omega)] at F
     by_cases d2:j<e
     · rw[L.2,Ug (by omega) d2] at D
       rcases U with(U |U) |⟨u,v,hu,N,U⟩
       · omega
       · omega
       · have Z:=O.le hc Y (show m<=i+(m - s) by omega) (show i+(m - s)<=e - 1 by omega) (by omega) F hu
         have q2:=S1.le hc Y ah (show s<=j - (e - m) by omega) (by omega) N D
         have q3:=hc.total u v (J hu) (J N) U;exact hc.trans x u y (J F) (J hu) (J D) Z (hc.trans u v y (J hu) (J N) (J D) q3 q2)
     · rw[L.2,Uf (by omega) (by omega)] at D
       exact O _ _ x y (by omega) (by omega) g4 F D
theorem ap6 {o D L M:List α} {a mid b:Nat} (h1:a<=mid) (h2:mid<=b) (hm:Mv o D a b)
  (O: ∀i j x y,a<=i->i<mid->mid<=j->j<b->D[i]? =some x->D[j]? =some y-> ¬c y x<0)
  (m1:kp c D L a mid) (m2:kp c L M mid b):kp c o M a b:=by
 refine⟨hm.trans ((m1.1.mono (ab8 _) h2).trans (m2.1.mono h1 (ab8 _))),?_⟩;refine cz.join (m:=mid) (m1.2.same λt k1 k2=>m2.1.out (.inl k2)) m2.2 ?_;intro i j x y g1 g2 g3 g4 F J;rw[m2.1.out (.inl g2)] at F;obtain⟨U,Z,q2,q3⟩:=m1.1.inn g1 g2;obtain⟨Y,N,r2,r3⟩:=m2.1.inn g3 g4;rw[q3] at F;rw[r3,m1.1.out (.inr N)] at J;exact O U Y x y Z q2 N r2 F J
theorem arC (hc:il P cf c) {o o2:List α} (U: ∀x∈o,P x) {a m b i:Nat} (hm:m=a+1) (h2:m<=i) (h3:i<=b) (h4:b<=o.length) (L:cz c o m b) {z:α} (M:o[a]? =some z)
  (hA:i=m\/ ∃x,o[i - 1]? =some x/\c x z<0) (N:i=b\/ ∃x,o[i]? =some x/\ ¬c x z<0) (Z:iL o o2 (mq a (i - 1))):kp c o o2 a b:=by
 have J: ∀{i:Nat} {x:α},o[i]? =some x->P x:=λh=>U _ (List.mem_of_getElem? h);refine⟨Mv.of Z (λt ht=>?_) (λt k1 k2=>?_),?_⟩
 · unfold mq;repeat' split
   all_goals omega
 · unfold mq;repeat' split
   all_goals omega
 · have u1: ∀{t},a<=t->t<i - 1->mq a (i - 1) t=t+1:=λg1 g2=>by unfold mq;rw[if_pos ⟨g1,g2⟩]
   have u2:mq a (i - 1) (i - 1)=a:=by unfold mq;rw[if_neg (by omega),if_pos rfl]
   have O: ∀{t},i<=t->mq a (i - 1) t=t:=λg=>by unfold mq;rw[if_neg (by omega),if_neg (by omega)]
   intro p q x y g1 g2 g3 F D;rw[Z.2] at F D;by_cases d1:p<i - 1
   · rw[u1 g1 d1] at F;by_cases d2:q<i - 1
     · rw[u1 (by omega) d2] at D
       exact L _ _ x y (by omega) (by omega) (by omega) F D
     · by_cases d3:q=i - 1
       · subst d3;rw[u2,M] at D;injection D with D;subst D;rcases hA with hA |⟨u,hu,hA⟩
         · omega
         · have Y:=L.le hc U (show m<=p+1 by omega) (show p+1<=i - 1 by omega) (by omega) F hu
           exact hc.trans x u z (J F) (J hu) (J M) Y (hc.total u z (J hu) (J M) hA)
       · rw[O (by omega)] at D
         exact L _ _ x y (by omega) (by omega) g3 F D
   · by_cases d3:p=i - 1
     · subst d3;rw[u2,M] at F;injection F with F;subst F;rw[O (by omega)] at D
       rcases N with N |⟨u,hu,N⟩
       · omega
       · have Y:=L.le hc U h2 (show i<=q by omega) g3 hu D
         exact hc.trans z u y (J M) (J hu) (J D) N Y
     · rw[O (by omega)] at F
       rw[O (by omega)] at D
       exact L _ _ x y (by omega) (by omega) g3 F D
theorem apg (hc:il P cf c) {o Z:List α} (O: ∀x∈o,P x) {a m b i:Nat} (hm:b=m+1) (h1:a<=i) (h2:i<=m) (h4:b<=o.length) (S1:cz c o a m) {z:α} (L:o[m]? =some z)
  (hA:i=a\/ ∃x,o[i - 1]? =some x/\ ¬c z x<0) (M:i=m\/ ∃x,o[i]? =some x/\c z x<0) (Y:iL o Z (lZ i m)):kp c o Z a b:=by
 have J: ∀{i:Nat} {x:α},o[i]? =some x->P x:=λh=>O _ (List.mem_of_getElem? h);refine⟨Mv.of Y (λt ht=>?_) (λt k1 k2=>?_),?_⟩
 · unfold lZ;repeat' split
   all_goals omega
 · unfold lZ;repeat' split
   all_goals omega
 · have N: ∀{t},i<t->t<=m->lZ i m t=t - 1:=λg1 g2=>by unfold lZ;rw[if_pos ⟨g1,g2⟩]
   have u2:lZ i m i=m:=by unfold lZ;rw[if_neg (by omega),if_pos rfl]
   have u3: ∀{t},t<i->lZ i m t=t:=λg=>by unfold lZ;rw[if_neg (by omega),if_neg (by omega)]
   intro p q x y g1 g2 g3 F D;rw[Y.2] at F D;by_cases d1:i<p
   · rw[N d1 (by omega)] at F
     rw[N (by omega) (by omega)] at D
     exact S1 _ _ x y (by omega) (by omega) (by omega) F D
   · by_cases d2:p=i
     · subst d2;rw[u2,L] at F;injection F with F;subst F;rw[N (by omega) (by omega)] at D
       rcases M with M |⟨u,hu,M⟩
       · omega
       · have U:=S1.le hc O h1 (show p<=q - 1 by omega) (by omega) hu D
         exact hc.trans z u y (J L) (J hu) (J D) (hc.total z u (J L) (J hu) M) U
     · rw[u3 (by omega)] at F
       by_cases d3:i<q
       · rw[N d3 (by omega)] at D
         exact S1 _ _ x y g1 (by omega) (by omega) F D
       · by_cases d4:q=i
         · subst d4;rw[u2,L] at D;injection D with D;subst D;rcases hA with hA |⟨u,hu,hA⟩
           · omega
           · have U:=S1.le hc O g1 (show p<=q - 1 by omega) (by omega) F hu
             exact hc.trans x u z (J F) (J hu) (J L) U hA
         · rw[u3 (by omega)] at D
           exact S1 _ _ x y g1 (by omega) (by omega) F D
end
variable {α γ:Type} {call:α->α->γ->Option Int}
theorem acx (cmp:γ) (rc:Int->Int->Int->γ->List α->Option (List α)) {P:α->Prop} {c:α->α->Int} (hc:il P (λx y=>call x y cmp) c) (J L M N O:Int) (F D p:Nat) (o:List α) (hP: ∀x∈o,P x) (h0:F<=D) (hb: ∀k,F<=k->k<D->k<=p/\p - k<o.length/\k<o.length) (hp:p<=200000000) (hl:o.length<=100000000):
  ∃i,F<=i/\i<=D/\ab ((oQ call) rc) (J,L,M,cmp,N,O,(F:Int),(D:Int),(p:Int),o,())=some (J,L,M,cmp,N,O,(i:Int),o,())/\
   (i=F\/HM c o (p - (i - 1)) (i - 1))/\(i=D\/HL c o (p - i) i):=by
 have main:=mF (f:=(oQ call) rc)
  (λv=> ∃(i j:Nat),v=(J,L,M,cmp,N,O,(i:Int),(j:Int),(p:Int),o,())/\F<=i/\i<=j/\j<=D/\(i=F\/HM c o (p - (i - 1)) (i - 1))/\(j=D\/HL c o (p - j) j))
  (fun v=>(v.2.2.2.2.2.2.2.1 - v.2.2.2.2.2.2.1).toNat) (λr=> ∃(i:Nat),r=(J,L,M,cmp,N,O,(i:Int),o,())/\F<=i/\i<=D/\(i=F\/HM c o (p - (i - 1)) (i - 1))/\(i=D\/HL c o (p - i) i)) (λv hv=>by
   obtain⟨i,j,rfl,g1,g2,g3,g4,g5⟩:=hv;by_cases d:i<j
   · obtain⟨b1,U,Y⟩:=hb ((i+j)/2) (by omega) (by omega)
     have Z:=AA i j (by omega)
     have e2:p - (((i+j)/2:Nat):Int)=((p - (i+j)/2:Nat):Int):=by omega
     have c1:0<=((i+j)/2)/\((i+j)/2)<o.length:=by omega
     have c2:0<=(p - (i+j)/2)/\(p - (i+j)/2)<o.length:=by omega
     have e3:aa .i64 (i+j):=bd (by omega)
     have ah:=hc.is _ _ (hP _ (ab7 U)) (hP _ (ab7 Y));by_cases an:c (o[p - (i+j)/2]) (o[(i+j)/2])<0
     · refine .inl ⟨(J,L,M,cmp,N,O,i,(((i+j)/2:Nat):Int),p,o,()),?_,⟨_,_,rfl,g1,by omega,by omega,g4,.inr ⟨_,_,ae6 U,ae6 Y,an⟩⟩,?_⟩
       · simp (disch:=omega) only[K0,oQ,Z,e2,ah]
       · show(((i+j)/2) - (i:Int)).toNat<(j - (i:Int)).toNat;omega
     · refine .inl ⟨(J,L,M,cmp,N,O,(((i+j)/2+1:Nat):Int),j,p,o,()),?_,⟨_,_,rfl,by omega,by omega,g3,.inr ⟨_,_,by rw[Nat.add_sub_cancel];exact ae6 U,by rw[Nat.add_sub_cancel];exact ae6 Y,an⟩,g5⟩,?_⟩
       · simp (disch:=omega) only[K0,oQ,Z,e2,ah]
       · show(j - (((i+j)/2+1):Int)).toNat<(j - (i:Int)).toNat;omega
   · have e:i=j:=by omega
     subst e;refine .inr ⟨_,?_,i,rfl,g1,g3,g4,g5⟩;simp[oQ])
 obtain⟨r,e,i,rfl,g1,g2,g3,g4⟩:=main (J,L,M,cmp,N,O,F,D,p,o,()) ⟨F,D,rfl,ab8 _,h0,ab8 _,.inl rfl,.inl rfl⟩;exact⟨i,g1,g2,e,g3,g4⟩
structure Oy (P:α->Prop) (c:α->α->Int) (a m b:Nat) (o:List α):Prop where
 am:a<m
 mb:m<b
 bl:b<=o.length
 ol:o.length<=100000000
 all: ∀x∈o,P x
 s1:cz c o a m
 s2:cz c o m b
set_option maxHeartbeats 1000000 in
theorem amL (cmp:γ) (rc:Int->Int->Int->γ->List α->Option (List α)) {P:α->Prop} {c:α->α->Int} (hc:il P (λx y=>call x y cmp) c) (n:Nat)
  (IH: ∀a m b o,b - a<=n->Oy P c a m b o-> ∃o',rc (a:Int) (m:Int) (b:Int) cmp o=some o'/\kp c o o' a b)
  (a m b:Nat) (o:List α) (hn:b - a<=n+1) (h:Oy P c a m b o): ∃o',(C0 call) rc (a:Int) (m:Int) (b:Int) cmp o=some o'/\kp c o o' a b:=by
 obtain⟨h1,h2,h3,hl,hP,S1,S2⟩:=h;have e1:(m:Int) - (a:Int)=((m - a:Nat):Int):=by omega
 have e2:(b:Int) - (m:Int)=((b - m:Nat):Int):=by omega
 unfold C0;rw[e1,aw (show m - a<=4611686018427387904 by omega)]
 by_cases k1:m - a=1
 · rw[dY (show((m - a:Nat):Int)=1 by omega),cond_true]
   have ha:a<o.length:=by omega
   obtain⟨i,q1,q2,q3,Y,Z⟩:=ar5 cmp rc hc a m b o hP h1 (by omega) h3 hl o[a] (ae6 ha)
   obtain⟨o',r1,r2⟩:=ar4 rc a i o (by omega) (by omega) hl
   refine⟨o',?_,arC hc hP (by omega) q1 q2 h3 S2 (ae6 ha) Y Z r2⟩
   simp only[q3,aa7,r1]
 · rw[dN (show¬((m - a:Nat):Int)=1 by omega),cond_false,e2,aw (show b - m<=4611686018427387904 by omega)]
   by_cases k2:b - m=1
   · rw[dY (show((b - m:Nat):Int)=1 by omega),cond_true]
     have ha:m<o.length:=by omega
     obtain⟨i,q1,q2,q3,Y,Z⟩:=ar3 cmp rc hc a m o hP (by omega) ha hl o[m] (ae6 ha)
     obtain⟨o',r1,r2⟩:=ar2 rc i m o (by omega) (by omega) hl
     refine⟨o',?_,apg hc hP (by omega) q1 q2 h3 S1 (ae6 ha) Y Z r2⟩
     simp only[q3,aa7,r1]
   · rw[dN (show¬((b - m:Nat):Int)=1 by omega),cond_false]
     have eh:=AA a b (by omega)
     have az: ∃mid,mid=(a+b)/2:=⟨_,rfl⟩;obtain⟨mid,aE⟩:=az;rw[<-aE] at eh;have e3:aa .i64 ((a:Int)+(b:Int)):=bd (by omega)
     have e4:((mid:Nat):Int)+(m:Int)=((mid+m:Nat):Int):=rfl;have e5:((mid+m:Nat):Int) - 1=((mid+m - 1:Nat):Int):=by omega
     simp only[ai e3,ai (show(0:Int)<=1 by decide),eh,e4,aw (show mid+m<=4611686018427387904 by omega),e5,aw (show mid+m - 1<=4611686018427387904 by omega)]
     have key: ∃s:Nat,a<=s/\s<=m/\m+s<=mid+m/\mid+m<=b+s/\s<=mid/\
       ((a=s\/mid+m - s=b)\/HM c o (mid+m - s) (s - 1))/\
       ((mid+m - s=m\/s=m)\/HL c o (mid+m - s - 1) s)/\
       ((mid<m/\ab ((oQ call) rc) ((a:Int),(m:Int),(b:Int),cmp,(mid:Int),((mid+m:Nat):Int),((mid+m - b:Nat):Int),(mid:Int),((mid+m - 1:Nat):Int),o,())=some ((a:Int),(m:Int),(b:Int),cmp,(mid:Int),((mid+m:Nat):Int),(s:Int),o,()))\/
        (¬mid<m/\ab ((oQ call) rc) ((a:Int),(m:Int),(b:Int),cmp,(mid:Int),((mid+m:Nat):Int),(a:Int),(m:Int),((mid+m - 1:Nat):Int),o,())=some ((a:Int),(m:Int),(b:Int),cmp,(mid:Int),((mid+m:Nat):Int),(s:Int),o,()))):=by
      by_cases hm:mid<m
      · obtain⟨s,q1,q2,q3,Y,Z⟩:=acx cmp rc hc (a:Int) (m:Int) (b:Int) (mid:Int) ((mid+m:Nat):Int) (mid+m - b) mid (mid+m - 1) o hP (by omega) (λk k1 k2=>by omega) (by omega) hl
        refine⟨s,by omega,by omega,by omega,by omega,by omega,?_,?_,.inl ⟨hm,q3⟩⟩
        · rcases Y with Y |Y
          · exact .inl (.inr (by omega))
          · by_cases z0:s=mid+m - b
            · exact .inl (.inr (by omega))
            · exact .inr (by rw[show mid+m - s=mid+m - 1 - (s - 1) by omega];exact Y)
        · rcases Z with Z |Z
          · exact .inl (.inl (by omega))
          · exact .inr (by rw[show mid+m - s - 1=mid+m - 1 - s by omega];exact Z)
      · obtain⟨s,q1,q2,q3,Y,Z⟩:=acx cmp rc hc (a:Int) (m:Int) (b:Int) (mid:Int) ((mid+m:Nat):Int) a m (mid+m - 1) o hP (by omega) (λk k1 k2=>by omega) (by omega) hl
        refine⟨s,by omega,by omega,by omega,by omega,by omega,?_,?_,.inr ⟨hm,q3⟩⟩
        · rcases Y with Y |Y
          · exact .inl (.inl (by omega))
          · by_cases z0:s=a
            · exact .inl (.inl (by omega))
            · exact .inr (by rw[show mid+m - s=mid+m - 1 - (s - 1) by omega];exact Y)
        · rcases Z with Z |Z
          · exact .inl (.inr (by omega))
          · exact .inr (by rw[show mid+m - s - 1=mid+m - 1 - s by omega];exact Z)
     obtain⟨s,g1,g2,g3,g4,g5,hA,hB,hS⟩:=key;have e6:((mid+m:Nat):Int) - (s:Int)=((mid+m - s:Nat):Int):=by omega
     have ah: ∃e,e=mid+m - s:=⟨_,rfl⟩;obtain⟨e,ah⟩:=ah;rw[<-ah] at e6 hA hB
     have an:(∃O,s<m/\m<e/\vK (s:Int) (m:Int) (e:Int) cmp o=some O/\iL o O (fR s m e))\/(¬s<m/\iL o o (fR s m e))\/(s<m/\ ¬m<e/\iL o o (fR s m e)):=by
      by_cases d1:s<m
      · by_cases d2:m<e
        · obtain⟨O,r1,r2⟩:=aoB cmp s m e o d1 d2 (by omega) hl
          exact .inl ⟨O,d1,d2,r1,r2⟩
        · refine .inr (.inr ⟨d1,d2,.refl _,λt=>?_⟩);congr 1;unfold fR;repeat' split
          all_goals omega
      · refine .inr (.inl ⟨d1,.refl _,λt=>?_⟩);congr 1;unfold fR;repeat' split
        all_goals omega
     have rest: ∀O,iL o O (fR s m e)-> ∃F M,((a<s/\s<mid/\rc (a:Int) (s:Int) (mid:Int) cmp O=some F)\/(¬a<s/\F=O)\/(a<s/\ ¬s<mid/\F=O))/\
       ((mid<e/\e<b/\rc (mid:Int) (e:Int) (b:Int) cmp F=some M)\/(¬mid<e/\M=F)\/(mid<e/\ ¬e<b/\M=F))/\O.length=o.length/\F.length=O.length/\kp c o M a b:=by
      intro O U;obtain⟨w1,w2,w3,w4,w5,w6⟩:=aop (mid:=mid) hc hP h1 h2 h3 (by omega) g1 g2 (by omega) (by omega) (by omega) S1 S2 hA hB U
      have ar:=w1.len
      have p1: ∃F,((a<s/\s<mid/\rc (a:Int) (s:Int) (mid:Int) cmp O=some F)\/(¬a<s/\F=O)\/(a<s/\ ¬s<mid/\F=O))/\kp c O F a mid:=by
       by_cases d1:a<s
       · by_cases d2:s<mid
         · obtain⟨F,r1,r2⟩:=IH a s mid O (by omega) ⟨d1,d2,by omega,by omega,w1.all hP,w2,w3⟩
           exact⟨F,.inl ⟨d1,d2,r1⟩,r2⟩
         · have:s=mid:=by omega
           exact⟨O,.inr (.inr ⟨d1,d2,rfl⟩),Mv.refl _ _ _,by rw[<-this];exact w2⟩
       · have:s=a:=by omega
         exact⟨O,.inr (.inl ⟨d1,rfl⟩),Mv.refl _ _ _,by rw[<-this];exact w3⟩
      obtain⟨F,a3,m3⟩:=p1;have av:=m3.1.len;have s4:cz c F mid e:=w4.same λt k1 k2=>m3.1.out (.inr k1);have s5:cz c F e b:=w5.same λt k1 k2=>m3.1.out (.inr (by omega))
      have p2: ∃M,((mid<e/\e<b/\rc (mid:Int) (e:Int) (b:Int) cmp F=some M)\/(¬mid<e/\M=F)\/(mid<e/\ ¬e<b/\M=F))/\kp c F M mid b:=by
       by_cases d1:mid<e
       · by_cases d2:e<b
         · obtain⟨M,r1,r2⟩:=IH mid e b F (by omega) ⟨d1,d2,by omega,by omega,m3.1.all (w1.all hP),s4,s5⟩
           exact⟨M,.inl ⟨d1,d2,r1⟩,r2⟩
         · have:e=b:=by omega
           exact⟨F,.inr (.inr ⟨d1,d2,rfl⟩),Mv.refl _ _ _,by rw[<-this];exact s4⟩
       · have:mid=e:=by omega
         exact⟨F,.inr (.inl ⟨d1,rfl⟩),Mv.refl _ _ _,by rw[this];exact s5⟩
      obtain⟨M,a4,m4⟩:=p2;exact⟨F,M,a3,a4,ar,av,ap6 (by omega) (by omega) w1 w6 m3 m4⟩
     have cs: ∀{x y:Nat},x<y-> ∀i,@decide ((x:Int)<(y:Int)) i=true:=λh i=>dY (by omega) i
     have cn: ∀{x y:Nat},¬x<y-> ∀i,@decide ((x:Int)<(y:Int)) i=false:=λh i=>dN (by omega) i
     have ek:J (aa .i64 ((e:Nat):Int))=λ(q:Option (List α))=>q:=by funext q;exact aw (by omega)
     rcases hS with⟨hm,hS⟩ |⟨hm,hS⟩
     · have e7:((mid+m:Nat):Int) - (b:Int)=((mid+m - b:Nat):Int):=by omega
       simp only[cs hm,cond_true,e7,aw (show mid+m - b<=4611686018427387904 by omega),hS,aa7,e6,ek]
       rcases an with⟨O,d1,d2,r1,U⟩ |⟨d1,U⟩ |⟨d1,d2,U⟩
       · obtain⟨F,M,a3,a4,L,N,hf⟩:=rest _ U;refine⟨M,?_,hf⟩;simp only[cs d1,cs d2,cond_true,r1,aa7];rcases a3 with⟨d3,d4,r3⟩ |⟨d3,rfl⟩ |⟨d3,d4,rfl⟩
         · simp only[cs d3,cs d4,cond_true,ai L.symm,r3,aa7];rcases a4 with⟨d5,d6,D⟩ |⟨d5,rfl⟩ |⟨d5,d6,rfl⟩
           · simp only[cs d5,cs d6,cond_true,ai N.symm,ai L.symm,D,aa7]
           · simp only[cn d5,cond_false]
           · simp only[cs d5,cond_true,cn d6,cond_false]
         · simp only[cn d3,cond_false];rcases a4 with⟨d5,d6,D⟩ |⟨d5,rfl⟩ |⟨d5,d6,rfl⟩
           · simp only[cs d5,cs d6,cond_true,ai N.symm,ai L.symm,D,aa7]
           · simp only[cn d5,cond_false]
           · simp only[cs d5,cond_true,cn d6,cond_false]
         · simp only[cs d3,cond_true,cn d4,cond_false];rcases a4 with⟨d5,d6,D⟩ |⟨d5,rfl⟩ |⟨d5,d6,rfl⟩
           · simp only[cs d5,cs d6,cond_true,ai N.symm,ai L.symm,D,aa7]
           · simp only[cn d5,cond_false]
           · simp only[cs d5,cond_true,cn d6,cond_false]
       · obtain⟨F,M,a3,a4,L,N,hf⟩:=rest _ U;refine⟨M,?_,hf⟩;simp only[cn d1,cond_false];rcases a3 with⟨d3,d4,r3⟩ |⟨d3,rfl⟩ |⟨d3,d4,rfl⟩
         · simp only[cs d3,cs d4,cond_true,ai L.symm,r3,aa7];rcases a4 with⟨d5,d6,D⟩ |⟨d5,rfl⟩ |⟨d5,d6,rfl⟩
           · simp only[cs d5,cs d6,cond_true,ai N.symm,ai L.symm,D,aa7]
           · simp only[cn d5,cond_false]
           · simp only[cs d5,cond_true,cn d6,cond_false]
         · simp only[cn d3,cond_false];rcases a4 with⟨d5,d6,D⟩ |⟨d5,rfl⟩ |⟨d5,d6,rfl⟩
           · simp only[cs d5,cs d6,cond_true,ai N.symm,ai L.symm,D,aa7]
           · simp only[cn d5,cond_false]
           · simp only[cs d5,cond_true,cn d6,cond_false]
         · simp only[cs d3,cond_true,cn d4,cond_false];rcases a4 with⟨d5,d6,D⟩ |⟨d5,rfl⟩ |⟨d5,d6,rfl⟩
           · simp only[cs d5,cs d6,cond_true,ai N.symm,ai L.symm,D,aa7]
           · simp only[cn d5,cond_false]
           · simp only[cs d5,cond_true,cn d6,cond_false]
       · obtain⟨F,M,a3,a4,L,N,hf⟩:=rest _ U;refine⟨M,?_,hf⟩;simp only[cs d1,cond_true,cn d2,cond_false];rcases a3 with⟨d3,d4,r3⟩ |⟨d3,rfl⟩ |⟨d3,d4,rfl⟩
         · simp only[cs d3,cs d4,cond_true,ai L.symm,r3,aa7];rcases a4 with⟨d5,d6,D⟩ |⟨d5,rfl⟩ |⟨d5,d6,rfl⟩
           · simp only[cs d5,cs d6,cond_true,ai N.symm,ai L.symm,D,aa7]
           · simp only[cn d5,cond_false]
           · simp only[cs d5,cond_true,cn d6,cond_false]
         · simp only[cn d3,cond_false];rcases a4 with⟨d5,d6,D⟩ |⟨d5,rfl⟩ |⟨d5,d6,rfl⟩
           · simp only[cs d5,cs d6,cond_true,ai N.symm,ai L.symm,D,aa7]
           · simp only[cn d5,cond_false]
           · simp only[cs d5,cond_true,cn d6,cond_false]
         · simp only[cs d3,cond_true,cn d4,cond_false];rcases a4 with⟨d5,d6,D⟩ |⟨d5,rfl⟩ |⟨d5,d6,rfl⟩
           · simp only[cs d5,cs d6,cond_true,ai N.symm,ai L.symm,D,aa7]
           · simp only[cn d5,cond_false]
           · simp only[cs d5,cond_true,cn d6,cond_false]
     · simp only[cn hm,cond_false,hS,aa7,e6,ek];rcases an with⟨O,d1,d2,r1,U⟩ |⟨d1,U⟩ |⟨d1,d2,U⟩
       · obtain⟨F,M,a3,a4,L,N,hf⟩:=rest _ U;refine⟨M,?_,hf⟩;simp only[cs d1,cs d2,cond_true,r1,aa7];rcases a3 with⟨d3,d4,r3⟩ |⟨d3,rfl⟩ |⟨d3,d4,rfl⟩
         · simp only[cs d3,cs d4,cond_true,ai L.symm,r3,aa7];rcases a4 with⟨d5,d6,D⟩ |⟨d5,rfl⟩ |⟨d5,d6,rfl⟩
           · simp only[cs d5,cs d6,cond_true,ai N.symm,ai L.symm,D,aa7]
           · simp only[cn d5,cond_false]
           · simp only[cs d5,cond_true,cn d6,cond_false]
         · simp only[cn d3,cond_false];rcases a4 with⟨d5,d6,D⟩ |⟨d5,rfl⟩ |⟨d5,d6,rfl⟩
           · simp only[cs d5,cs d6,cond_true,ai N.symm,ai L.symm,D,aa7]
           · simp only[cn d5,cond_false]
           · simp only[cs d5,cond_true,cn d6,cond_false]
         · simp only[cs d3,cond_true,cn d4,cond_false];rcases a4 with⟨d5,d6,D⟩ |⟨d5,rfl⟩ |⟨d5,d6,rfl⟩
           · simp only[cs d5,cs d6,cond_true,ai N.symm,ai L.symm,D,aa7]
           · simp only[cn d5,cond_false]
           · simp only[cs d5,cond_true,cn d6,cond_false]
       · obtain⟨F,M,a3,a4,L,N,hf⟩:=rest _ U;refine⟨M,?_,hf⟩;simp only[cn d1,cond_false];rcases a3 with⟨d3,d4,r3⟩ |⟨d3,rfl⟩ |⟨d3,d4,rfl⟩
         · simp only[cs d3,cs d4,cond_true,ai L.symm,r3,aa7];rcases a4 with⟨d5,d6,D⟩ |⟨d5,rfl⟩ |⟨d5,d6,rfl⟩
           · simp only[cs d5,cs d6,cond_true,ai N.symm,ai L.symm,D,aa7]
           · simp only[cn d5,cond_false]
           · simp only[cs d5,cond_true,cn d6,cond_false]
         · simp only[cn d3,cond_false];rcases a4 with⟨d5,d6,D⟩ |⟨d5,rfl⟩ |⟨d5,d6,rfl⟩
           · simp only[cs d5,cs d6,cond_true,ai N.symm,ai L.symm,D,aa7]
           · simp only[cn d5,cond_false]
           · simp only[cs d5,cond_true,cn d6,cond_false]
         · simp only[cs d3,cond_true,cn d4,cond_false];rcases a4 with⟨d5,d6,D⟩ |⟨d5,rfl⟩ |⟨d5,d6,rfl⟩
           · simp only[cs d5,cs d6,cond_true,ai N.symm,ai L.symm,D,aa7]
           · simp only[cn d5,cond_false]
           · simp only[cs d5,cond_true,cn d6,cond_false]
       · obtain⟨F,M,a3,a4,L,N,hf⟩:=rest _ U;refine⟨M,?_,hf⟩;simp only[cs d1,cond_true,cn d2,cond_false];rcases a3 with⟨d3,d4,r3⟩ |⟨d3,rfl⟩ |⟨d3,d4,rfl⟩
         · simp only[cs d3,cs d4,cond_true,ai L.symm,r3,aa7];rcases a4 with⟨d5,d6,D⟩ |⟨d5,rfl⟩ |⟨d5,d6,rfl⟩
           · simp only[cs d5,cs d6,cond_true,ai N.symm,ai L.symm,D,aa7]
           · simp only[cn d5,cond_false]
           · simp only[cs d5,cond_true,cn d6,cond_false]
         · simp only[cn d3,cond_false];rcases a4 with⟨d5,d6,D⟩ |⟨d5,rfl⟩ |⟨d5,d6,rfl⟩
           · simp only[cs d5,cs d6,cond_true,ai N.symm,ai L.symm,D,aa7]
           · simp only[cn d5,cond_false]
           · simp only[cs d5,cond_true,cn d6,cond_false]
         · simp only[cs d3,cond_true,cn d4,cond_false];rcases a4 with⟨d5,d6,D⟩ |⟨d5,rfl⟩ |⟨d5,d6,rfl⟩
           · simp only[cs d5,cs d6,cond_true,ai N.symm,ai L.symm,D,aa7]
           · simp only[cn d5,cond_false]
           · simp only[cs d5,cond_true,cn d6,cond_false]
theorem amM (f g:Int×Int×Int×γ×List α×Unit->Option (List α)) (h: ∀x,br (f x) (g x)) (x:Int×Int×Int×γ×List α×Unit):br ((tk call) f x) ((tk call) g x):=by
 repeat (first
  |with_reducible exact br.refl _
  |refine br.J ?_
  |refine br.cond ?_ ?_
  |refine br.bind (br.loop rfl _) (λx=>?_)
  |refine br.bind (h _) (λx=>?_)
  |refine br.bind (br.refl _) (λx=>?_))
theorem XP (cmp:γ) {P:α->Prop} {c:α->α->Int} (hc:il P (λx y=>call x y cmp) c) (a m b:Nat) (o:List α) (h:Oy P c a m b o): ∃o',(Jy call) (a:Int) (m:Int) (b:Int) cmp o=some o'/\kp c o o' a b:=by
 have main: ∀n a m b o,b - a<=n->Oy P c a m b o-> ∃o',fa (tk call) n (a,m,b,cmp,o,())=some o'/\kp c o o' a b:=by
  intro n
  induction n with
  |zero=>intro a m b o D h;have:=h.am;have:=h.mb;omega
  |succ n L=>intro a m b o D h;exact amL cmp (λa0 F a2 a3 a4=>fa (tk call) n (a0,F,a2,a3,a4,())) hc n L a m b o D h
 obtain⟨o',M,N⟩:=main _ a m b o (ab8 _) h;exact⟨o',Tk (λf g J x r=>amM f g (λx r=>J x r) x r) M,N⟩
variable {α γ:Type} {call:α->α->γ->Option Int}
theorem amT (cmp:γ) {P:α->Prop} {c:α->α->Int} (hc:il P (λx y=>call x y cmp) c) (o:List α) (M: ∀x∈o,P x) (Z:o.length<=100000000):
  ∃(k:Nat) (D:List α),ab (vE call) ((o.length:Int),cmp,20,0,20,o,())=some ((o.length:Int),cmp,20,((20*k:Nat):Int),D,())/\20*k<=o.length/\o.length<20*k+20/\D.Perm o/\ ∀j,j<k->cz c D (20*j) (20*j+20):=by
 have main:=mF (f:=(vE call))
  (λv=> ∃k D,v=((o.length:Int),cmp,20,((20*k:Nat):Int),((20*k+20:Nat):Int),D,())/\20*k<=o.length/\D.Perm o/\ ∀j,j<k->cz c D (20*j) (20*j+20))
  (fun v=>(o.length+20 - v.2.2.2.2.1).toNat) (λr=> ∃k D,r=((o.length:Int),cmp,20,((20*k:Nat):Int),D,())/\20*k<=o.length/\o.length<20*k+20/\D.Perm o/\ ∀j,j<k->cz c D (20*j) (20*j+20)) (λv O=>by
   obtain⟨k,D,rfl,hk,hp,hs⟩:=O;have hlen:=hp.length_eq;by_cases d:20*k+20<=o.length
   · obtain⟨J,Y,F⟩:=XA cmp hc (20*k) (20*k+20) D (λx U=>M x (hp.subset U)) (by simp) (by omega) (by omega)
     have L:((20*k+20:Nat):Int)+20=((20*(k+1)+20:Nat):Int):=by omega
     refine .inl ⟨(o.length,cmp,20,((20*k+20:Nat):Int),((20*(k+1)+20:Nat):Int),J,()),?_,⟨k+1,J,rfl,by omega,F.1.1.trans hp,λj N=>?_⟩,?_⟩
     · simp only[vE,dY (show((20*k+20:Nat):Int)<=o.length by omega),cond_true,Y,aa7,L,aw (show 20*(k+1)+20<=4611686018427387904 by omega),ai F.len.symm]
     · by_cases d2:j<k
       · exact(hs j d2).same λt k1 k2=>F.1.out (.inl (by omega))
       · have:j=k:=by omega
         subst this;exact F.2
     · show(o.length+20 - ((20*(k+1)+20):Int)).toNat<(o.length+20 - ((20*k+20):Int)).toNat;omega
   · refine .inr ⟨_,?_,k,D,rfl,hk,by omega,hp,hs⟩
     simp (disch:=omega) only[K0,vE])
 obtain⟨r,e,k,D,rfl,g⟩:=main (o.length,cmp,20,(20*0),(20*0+20),o,()) ⟨0,o,rfl,ae3 _,.refl _,λj N=>by omega⟩
 exact⟨k,D,e,g⟩
theorem amS (cmp:γ) {P:α->Prop} {c:α->α->Int} (hc:il P (λx y=>call x y cmp) c) (n bs:Nat) (o:List α) (Z: ∀x∈o,P x) (hn:n=o.length) (hl:o.length<=100000000) (h1:1<=bs) (h2:bs<=400000000) (Y: ∀j,cz c o (bs*j) (min (bs*j+bs) n)):
  ∃(k:Nat) (D:List α),ab (vC call) ((n:Int),cmp,(bs:Int),0,((2*bs:Nat):Int),o,())=some ((n:Int),cmp,(bs:Int),((bs*(2*k):Nat):Int),D,())/\bs*(2*k)<=n/\n<bs*(2*k)+2*bs/\D.Perm o/\(∀j,j<k->cz c D (bs*(2*j)) (bs*(2*j)+2*bs))/\ ∀j,2*k<=j->cz c D (bs*j) (min (bs*j+bs) n):=by
 have main:=mF (f:=(vC call))
  (λv=> ∃k D,v=((n:Int),cmp,(bs:Int),((bs*(2*k):Nat):Int),((bs*(2*k)+2*bs:Nat):Int),D,())/\bs*(2*k)<=n/\D.Perm o/\(∀j,j<k->cz c D (bs*(2*j)) (bs*(2*j)+2*bs))/\ ∀j,2*k<=j->cz c D (bs*j) (min (bs*j+bs) n))
  (fun v=>(n+2*bs - v.2.2.2.2.1).toNat) (λr=> ∃(k:Nat) (D:List α),r=((n:Int),cmp,(bs:Int),((bs*(2*k):Nat):Int),D,())/\bs*(2*k)<=n/\n<bs*(2*k)+2*bs/\D.Perm o/\(∀j,j<k->cz c D (bs*(2*j)) (bs*(2*j)+2*bs))/\ ∀j,2*k<=j->cz c D (bs*j) (min (bs*j+bs) n)) (λv hv=>by
   obtain⟨k,D,rfl,hk,hp,hs,L⟩:=hv;have hlen:=hp.length_eq;have m1:bs*(2*k+1)=bs*(2*k)+bs:=by rw[Nat.mul_add,Nat.mul_one]
   have m2:bs*(2*(k+1))=bs*(2*k)+2*bs:=by rw[Nat.mul_add,Nat.mul_add,Nat.mul_one,Nat.mul_comm bs 2]
   have m3: ∀j,j<k->bs*(2*j)+2*bs<=bs*(2*k):=λj F=>by
    have:bs*(2*(j+1))<=bs*(2*k):=Nat.mul_le_mul_left _ (by omega)
    rw[Nat.mul_add 2,Nat.mul_add bs,Nat.mul_one,Nat.mul_comm bs 2] at this;exact this
   have m4: ∀j,2*(k+1)<=j->bs*(2*k)+2*bs<=bs*j:=λj F=>by rw[<-m2];exact Nat.mul_le_mul_left _ F
   generalize hA:bs*(2*k)=A at*;by_cases d:A+2*bs<=n
   · have s1:=L (2*k) (ab8 _);have s2:=L (2*k+1) (by simp)
     rw[hA] at s1;rw[m1] at s2;obtain⟨M,q1,J⟩:=XP cmp hc A (A+bs) (A+2*bs) D ⟨by omega,by omega,by omega,by omega,λx hx=>Z x (hp.subset hx),s1.mono (ab8 _) (by omega),s2.mono (ab8 _) (by omega)⟩
     have N:A+bs=((A+bs:Nat):Int):=rfl;have O:2*bs=((2*bs:Nat):Int):=rfl;have U:((A+2*bs:Nat):Int)+((2*bs:Nat):Int)=((A+2*bs+2*bs:Nat):Int):=rfl;refine .inl ⟨(n,cmp,bs,((A+2*bs:Nat):Int),((A+2*bs+2*bs:Nat):Int),M,()),?_,⟨k+1,M,by rw[m2],by omega,J.1.1.trans hp,λj F=>?_,λj F=>?_⟩,?_⟩
     · simp only[vC,dY (show((A+2*bs:Nat):Int)<=n by omega),cond_true,N,aw (show A+bs<=4611686018427387904 by omega),q1,aa7,O,aw (show 2*bs<=4611686018427387904 by omega),U,aw (show A+2*bs+2*bs<=4611686018427387904 by omega),ai J.len.symm]
     · by_cases d2:j<k
       · have:=m3 j d2;exact(hs j d2).same λt k1 k2=>J.1.out (.inl (by omega))
       · have:j=k:=by omega
         subst this;rw[hA];exact J.2
     · have:=m4 j F;exact(L j (by omega)).same λt k1 k2=>J.1.out (.inr (by omega))
     · show(n+2*bs - ((A+2*bs+2*bs):Int)).toNat<(n+2*bs - ((A+2*bs):Int)).toNat;omega
   · refine .inr ⟨_,?_,k,D,by rw[hA],by omega,by omega,hp,hs,L⟩
     simp (disch:=omega) only[K0,vC])
 have z0:bs*(2*0)=0:=rfl;obtain⟨r,e,k,D,rfl,g⟩:=main (n,cmp,bs,(bs*(2*0)),((bs*(2*0)+2*bs:Nat):Int),o,()) ⟨0,o,rfl,ae3 _,.refl _,(λj F=>by omega),λj F=>Y j⟩
 rw[z0,Nat.zero_add] at e;exact⟨k,D,e,g⟩
theorem amR (cmp:γ) {P:α->Prop} {c:α->α->Int} (hc:il P (λx y=>call x y cmp) c) (n:Nat) (o:List α) (Z: ∀x∈o,P x) (hn:n=o.length) (hl:o.length<=100000000) (hB: ∀j,cz c o (20*j) (min (20*j+20) n)):
  ∃D,ab (tp call) ((n:Int),cmp,20,o,())=some (D,())/\D.Perm o/\cz c D 0 n:=by
 have main:=mF (f:=(tp call))
  (λv=> ∃(bs:Nat) (D:List α),v=((n:Int),cmp,(bs:Int),D,())/\20<=bs/\bs<=400000000/\D.Perm o/\ ∀j,cz c D (bs*j) (min (bs*j+bs) n))
  (fun v=>(n - v.2.2.1).toNat) (λr=>r.1.Perm o/\cz c r.1 0 n) (λv hv=>by
   obtain⟨bs,D,rfl,h1,h2,hp,hs⟩:=hv;have hlen:=hp.length_eq;by_cases d:bs<n
   · obtain⟨k,J,q1,q2,q3,L,q5,q6⟩:=amS cmp hc n bs D (λx N=>Z x (hp.subset N)) (by omega) (by omega) (by omega) h2 hs
     have ah:=L.length_eq;have m1:bs*(2*k+1)=bs*(2*k)+bs:=by rw[Nat.mul_add,Nat.mul_one]
     have m3: ∀j,j<k->bs*(2*j)+2*bs<=bs*(2*k):=λj hj=>by
      have:bs*(2*(j+1))<=bs*(2*k):=Nat.mul_le_mul_left _ (by omega)
      rw[Nat.mul_add 2,Nat.mul_add bs,Nat.mul_one,Nat.mul_comm bs 2] at this;exact this
     have m4: ∀j,k<j->bs*(2*k)+2*bs<=bs*(2*j):=λj hj=>by
      have:bs*(2*(k+1))<=bs*(2*j):=Nat.mul_le_mul_left _ (by omega)
      rw[Nat.mul_add 2,Nat.mul_add bs,Nat.mul_one,Nat.mul_comm bs 2] at this;exact this
     have s1:=q6 (2*k) (ab8 _);have s2:=q6 (2*k+1) (by simp)
     rw[m1] at s2
     have fin: ∀F:List α,(∀t,t<bs*(2*k)->F[t]? =J[t]?)->cz c F (bs*(2*k)) n-> ∀j,cz c F (bs*2*j) (min (bs*2*j+bs*2) n):=by
      intro F ho hk j;rw[Nat.mul_assoc bs 2 j];rcases ax0 j k with d2 |d2 |d2
      · have:=m3 j d2;exact((q5 j d2).same λt k1 k2=>ho t (by omega)).mono (ab8 _) (by omega)
      · subst d2;exact hk.mono (ab8 _) (by omega)
      · have:=m4 j d2;exact cz.none (by omega)
     have O:2*bs=((2*bs:Nat):Int):=rfl;have Y:bs*2=((bs*2:Nat):Int):=rfl;generalize hA:bs*(2*k)=A at*;have U:A+bs=((A+bs:Nat):Int):=rfl;by_cases d3:A+bs<n
     · obtain⟨F,r1,M⟩:=XP cmp hc A (A+bs) n J ⟨by omega,d3,by omega,by omega,λx N=>Z x (hp.subset (L.subset N)),s1.mono (ab8 _) (by omega),s2.mono (ab8 _) (by omega)⟩
       refine .inl ⟨(n,cmp,(bs*2),F,()),?_,⟨bs*2,F,rfl,by omega,by omega,M.1.1.trans (L.trans hp),fin F (λt ht=>M.1.out (.inl ht)) M.2⟩,?_⟩
       · simp only[tp,dY (show(bs:Int)<n by omega),cond_true,O,aw (show 2*bs<=4611686018427387904 by omega),q1,aa7,U,aw (show A+bs<=4611686018427387904 by omega),dY (show((A+bs:Nat):Int)<n by omega),r1,Y,aw (show bs*2<=4611686018427387904 by omega),ai M.len.symm]
       · show(n - ((bs*2):Int)).toNat<(n - (bs:Int)).toNat;omega
     · refine .inl ⟨(n,cmp,(bs*2),J,()),?_,⟨bs*2,J,rfl,by omega,by omega,L.trans hp,fin J (λt ht=>rfl) (s1.mono (ab8 _) (by omega))⟩,?_⟩
       · simp (disch:=omega) only[K0,tp,O,q1,U,Y]
       · show(n - ((bs*2):Int)).toNat<(n - (bs:Int)).toNat;omega
   · refine .inr ⟨(D,()),?_,hp,?_⟩
     · simp (disch:=omega) only[K0,tp]
     · have:=hs 0;rw[Nat.mul_zero] at this;exact this.mono (ab8 _) (by omega))
 obtain⟨r,e,g⟩:=main (n,cmp,20,o,()) ⟨20,o,rfl,ab8 _,by decide,.refl _,hB⟩
 exact⟨r.1,e,g⟩
theorem WY (cmp:γ) {P:α->Prop} {c:α->α->Int} (hc:il P (λx y=>call x y cmp) c) (o:List α) (J: ∀x∈o,P x) (M:o.length<=100000000):
  ∃o',(yH call) cmp o=some o'/\o'.Perm o/\o'.Pairwise (λx y=> ¬c y x<0):=by
 obtain⟨k,N,Y,Z,q3,F,q5⟩:=amT cmp hc o J M;have hlen:=F.length_eq;obtain⟨O,r1,D⟩:=XA cmp hc (20*k) o.length N (λx L=>J x (F.subset L)) Z (by omega) (by omega)
 have ah:=D.len
 obtain⟨U,t1,t2,t3⟩:=amR cmp hc o.length O (λx L=>J x (F.subset (D.1.1.subset L))) (by omega) (by omega) (λj=>by
  rcases ax0 j k with d |d |d
  · exact((q5 j d).same λt k1 k2=>D.1.out (.inl (by omega))).mono (ab8 _) (by omega)
  · subst d;exact D.2.mono (ab8 _) (by omega)
  · exact cz.none (by omega))
 refine⟨U,?_,t2.trans (D.1.1.trans F),ahZ ((t2.trans (D.1.1.trans F)).length_eq▸t3)⟩;unfold yH DB;simp (disch:=omega) only[K0,Y,r1,t1]
abbrev du:=Int×Int×Int×Int×Int
abbrev om:=(nA×List UInt8)×Int
theorem arl:CI=yH qh:=rfl
theorem ah0 (cmp:aeZ) {P:om->Prop} {c:om->om->Int} (hc:il P (λx y=>qh x y cmp) c) (o:List om) (D: ∀x∈o,P x) (F:o.length<=100000000):
  ∃o',CI cmp o=some o'/\o'.Perm o/\o'.Pairwise (λx y=> ¬c y x<0):=by
 rw[arl];exact WY cmp hc o D F
theorem Sl {V D R R':Type} {f:V->Option (V⊕R)} {J:D->Option (D⊕R')} {F:V->D} {L:R->R'} (h: ∀v,J (F v)=(f v).map (Sum.map F L)): ∀n v,ie n J (F v)=(ie n f v).map L
 |0,_=>rfl
 |n+1,v=>by
  unfold ie;rw[h];cases f v with
  |none=>rfl
  |some x=>cases x with
   |inl v'=>exact Sl h n v'
   |inr r=>rfl
theorem o5 {V F R R':Type} {f:V->Option (V⊕R)} {J:F->Option (F⊕R')} {φ:V->F} {ψ:R->R'} (h: ∀v,J (φ v)=(f v).map (Sum.map φ ψ)) (v:V):ab J (φ v)=(ab f v).map ψ:=by
 cases e:ab f v with
 |some r=>obtain⟨n,D⟩:=mG.1 e;exact mG.2 ⟨n,by rw[Sl h,D];rfl⟩
 |none=>
  cases L:ab J (φ v) with
  |none=>rfl
  |some r=>obtain⟨n,D⟩:=mG.1 L;rw[Sl h] at D;obtain⟨q,M,_⟩:=Option.map_eq_some_iff.1 D;rw[mG.2 ⟨n,M⟩] at e;grind
open Classical in
theorem aqP {A D B:Type} {b:(A->Option B)->A->Option B} {F:(D->Option B)->D->Option B} {x:A} {y:D} (h: ∀n,fa F n y=fa b n x):ou F y=ou b x:=by simp_all[ou]
theorem o8 {c:Prop} {_:Decidable c} {R S:Type} (k:Option R) (f:R->S):(J c k).map f=J c (k.map f):=by grind[J]
theorem o0 {R S:Type} (b:Bool) (x y:Option R) (f:R->S):(bif b then x else y).map f=bif b then x.map f else y.map f:=by grind
theorem nU {A B C:Type} (x:Option A) (f:A->Option B) (g:B->C):(x.bind f).map g=x.bind λa=>(f a).map g:=by cases x<;>rfl
theorem tU {A B C:Type} (x:Option A) (f:A->B) (g:B->Option C):(x.map f).bind g=x.bind λa=>g (f a):=by cases x<;>rfl
abbrev cq (x y:du) (_:Unit):Option Int:=qg x y
theorem af4 (a0 D a3 a4 a5):ab (tf cq) (a0,D,(),a3,a4,a5,())=(ab OY (a0,D,a3,a4,a5,())).map (λr:Int×Int×Int×(List du)×Unit=>(r.1,r.2.1,(),r.2.2.1,r.2.2.2.1,())):=
 o5 (φ:=λv:Int×Int×Int×Int×(List du)×Unit=>(v.1,v.2.1,(),v.2.2.1,v.2.2.2.1,v.2.2.2.2.1,())) (ψ:=λr:Int×Int×Int×(List du)×Unit=>(r.1,r.2.1,(),r.2.2.1,r.2.2.2.1,())) (λv=>by simp only[tf,OY,o0,o8,nU,at5,Sum.map_inl,Sum.map_inr]) (a0,D,a3,a4,a5,())
theorem af3 (a0 D a3 a4):ab (yk cq) (a0,D,(),a3,a4,())=(ab OX (a0,D,a3,a4,())).map (λr:(List du)×Unit=>(r.1,())):=
 o5 (φ:=λv:Int×Int×Int×(List du)×Unit=>(v.1,v.2.1,(),v.2.2.1,v.2.2.2.1,())) (ψ:=λr:(List du)×Unit=>(r.1,())) (λv=>by simp only[yk,OX,o0,o8,nU,at5,Sum.map_inl,Sum.map_inr,tU,af4]) (a0,D,a3,a4,())
theorem V2 (a b l):vx cq a b () l=CB a b l:=by simp[vx,CB,af3]
theorem Wa (a b n l): @vB du Unit a b n () l=CE a b n l:=rfl
theorem ag3 (a0 a2 a3 a4):ab (@vF du Unit) (a0,(),a2,a3,a4,())=(ab Pe (a0,a2,a3,a4,())).map (λr:Int×Int×(List du)×Unit=>(r.1,(),r.2.1,r.2.2.1,())):=
 o5 (φ:=λv:Int×Int×Int×(List du)×Unit=>(v.1,(),v.2.1,v.2.2.1,v.2.2.2.1,())) (ψ:=λr:Int×Int×(List du)×Unit=>(r.1,(),r.2.1,r.2.2.1,())) (λv=>by simp only[vF,Pe,o0,o8,nU,at5,Sum.map_inl,Sum.map_inr,Wa]) (a0,a2,a3,a4,())
theorem ahE (a m b l): @vK du Unit a m b () l=It a m b l:=by simp[vK,It,tU,Wa,ag3]
theorem agw {rc rc2} (a0 a2 a3 a4):ab (tn cq rc) (a0,(),a2,a3,a4,())=(ab (O7 rc2) (a0,a2,a3,a4,())).map (λr:Int×Int×(List du)×Unit=>(r.1,r.2.1,r.2.2.1,())):=
 o5 (φ:=λv:Int×Int×Int×(List du)×Unit=>(v.1,(),v.2.1,v.2.2.1,v.2.2.2.1,())) (ψ:=λr:Int×Int×(List du)×Unit=>(r.1,r.2.1,r.2.2.1,())) (λv=>by simp only[tn,O7,o0,o8,nU,at5,Sum.map_inl,Sum.map_inr]) (a0,a2,a3,a4,())
theorem as7 {rc rc2}: @yt du Unit rc=VP rc2:=rfl
theorem agv {rc rc2} (a0 a2 a3 a4):ab (tl cq rc) (a0,(),a2,a3,a4,())=(ab (O6 rc2) (a0,a2,a3,a4,())).map (λr:Int×Int×(List du)×Unit=>(r.1,r.2.1,r.2.2.1,())):=
 o5 (φ:=λv:Int×Int×Int×(List du)×Unit=>(v.1,(),v.2.1,v.2.2.1,v.2.2.2.1,())) (ψ:=λr:Int×Int×(List du)×Unit=>(r.1,r.2.1,r.2.2.1,())) (λv=>by simp only[tl,O6,o0,o8,nU,at5,Sum.map_inl,Sum.map_inr]) (a0,a2,a3,a4,())
theorem as6 {rc rc2}: @yr du Unit rc=VN rc2:=rfl
theorem agu {rc rc2} (a0 D a2 a4 a5 F J L a9):ab (oQ cq rc) (a0,D,a2,(),a4,a5,F,J,L,a9,())=(ab (Ip rc2) (a0,D,a2,a4,a5,F,J,L,a9,())).map (λr:Int×Int×Int×Int×Int×Int×(List du)×Unit=>(r.1,r.2.1,r.2.2.1,(),r.2.2.2.1,r.2.2.2.2.1,r.2.2.2.2.2.1,r.2.2.2.2.2.2.1,())):=
 o5 (φ:=λv:Int×Int×Int×Int×Int×Int×Int×Int×(List du)×Unit=>(v.1,v.2.1,v.2.2.1,(),v.2.2.2.1,v.2.2.2.2.1,v.2.2.2.2.2.1,v.2.2.2.2.2.2.1,v.2.2.2.2.2.2.2.1,v.2.2.2.2.2.2.2.2.1,())) (ψ:=λr:Int×Int×Int×Int×Int×Int×(List du)×Unit=>(r.1,r.2.1,r.2.2.1,(),r.2.2.2.1,r.2.2.2.2.1,r.2.2.2.2.2.1,r.2.2.2.2.2.2.1,())) (λv=>by simp only[oQ,Ip,o0,o8,nU,at5,Sum.map_inl,Sum.map_inr]) (a0,D,a2,a4,a5,F,J,L,a9,())
theorem ags {f F} (h: ∀a0 D a2 o,f a0 D a2 () o=F a0 D a2 o) (a0 D a2 o):C0 cq f a0 D a2 () o=O5 F a0 D a2 o:=by simp[C0,O5,h,tU,ahE,agw (rc2:=F),agv (rc2:=F),agu (rc2:=F)]<;>rfl
theorem agt (f F) (h: ∀a0 D a2 o,f (a0,D,a2,(),o,())=F (a0,D,a2,o,())) (a0 D a2 o):tk cq f (a0,D,a2,(),o,())=Io F (a0,D,a2,o,()):=ags (λa0 D a2 o=>h a0 D a2 o) a0 D a2 o
theorem Wi (a0 D a2 o):Jy cq a0 D a2 () o=Pa a0 D a2 o:=by
 have: ∀n a0 D a2 o,fa (tk cq) n (a0,D,a2,(),o,())=fa Io n (a0,D,a2,o,()):=by
  intro n
  induction n with
  |zero=>intros;rfl
  |succ n F=>exact agt _ _ F
 exact aqP λn=>this n a0 D a2 o
theorem ag2 (a0 a2 a3 a4 a5):ab (vE cq) (a0,(),a2,a3,a4,a5,())=(ab Pd (a0,a2,a3,a4,a5,())).map (λr:Int×Int×Int×(List du)×Unit=>(r.1,(),r.2.1,r.2.2.1,r.2.2.2.1,())):=
 o5 (φ:=λv:Int×Int×Int×Int×(List du)×Unit=>(v.1,(),v.2.1,v.2.2.1,v.2.2.2.1,v.2.2.2.2.1,())) (ψ:=λr:Int×Int×Int×(List du)×Unit=>(r.1,(),r.2.1,r.2.2.1,r.2.2.2.1,())) (λv=>by simp only[vE,Pd,o0,o8,nU,at5,Sum.map_inl,Sum.map_inr,V2]) (a0,a2,a3,a4,a5,())
theorem ag1 (a0 a2 a3 a4 a5):ab (vC cq) (a0,(),a2,a3,a4,a5,())=(ab Pc (a0,a2,a3,a4,a5,())).map (λr:Int×Int×Int×(List du)×Unit=>(r.1,(),r.2.1,r.2.2.1,r.2.2.2.1,())):=
 o5 (φ:=λv:Int×Int×Int×Int×(List du)×Unit=>(v.1,(),v.2.1,v.2.2.1,v.2.2.2.1,v.2.2.2.2.1,())) (ψ:=λr:Int×Int×Int×(List du)×Unit=>(r.1,(),r.2.1,r.2.2.1,r.2.2.2.1,())) (λv=>by simp only[vC,Pc,o0,o8,nU,at5,Sum.map_inl,Sum.map_inr,Wi]) (a0,a2,a3,a4,a5,())
theorem ag0 (a0 a2 a3):ab (tp cq) (a0,(),a2,a3,())=(ab Pb (a0,a2,a3,())).map (λr:(List du)×Unit=>(r.1,())):=
 o5 (φ:=λv:Int×Int×(List du)×Unit=>(v.1,(),v.2.1,v.2.2.1,())) (ψ:=λr:(List du)×Unit=>(r.1,())) (λv=>by simp only[tp,Pb,o0,o8,nU,at5,Sum.map_inl,Sum.map_inr,tU,Wi,ag1]) (a0,a2,a3,())
theorem ahD (n l):DB cq n () l=Is n l:=by simp[DB,Is,tU,V2,ag2,ag0]
theorem ahj (l):yH cq () l=ya l:=by simp[yH,ya,ahD]
theorem ah1 {P:du->Prop} {c:du->du->Int} (hc:il P (λx y=>qg x y) c) (o:List du) (D: ∀x∈o,P x) (F:o.length<=100000000):
  ∃o',ya o=some o'/\o'.Perm o/\o'.Pairwise (λx y=> ¬c y x<0):=by
 rw[<-ahj];exact WY (call:=cq) () hc o D F
theorem Ss {α:Type} (p:α->Bool): ∀(l:List α),l.find? p=(l.findIdx? p).bind λk=>l[k]?
 |[]=>rfl
 |x::t=>by
  rw[List.find?_cons,List.findIdx?_cons];cases h:p x with
  |true=>simp
  |false=>
   rw[Ss p t];cases t.findIdx? p with
   |none=>rfl
   |some k=>simp
def gg {α:Type} (l:List (List UInt8×α)) (s:List UInt8):Option α:=(l.find? λx=>decide (x.1=s)).map (·.2)
theorem amq {α:Type} {l:List (List UInt8×α)} {s:List UInt8} {a:α} (h:gg l s=some a):(s,a)∈l:=by
 unfold gg at h;cases e:l.find? λx=>decide (x.1=s) with
 |none=>grind
 |some x=>grind
theorem abQ (l:List (List UInt8×List UInt8)) (s:List UInt8) (D:l.length<=1000000):wb l s=some ((gg l s).getD [],(gg l s).isSome):=by
 have h:=tI (f:=EC) l (λx=>decide (x.1=s)) (λk=>(l,s,k,())) (λx=>Sum.inr (x.2,())) (Sum.inl ())
  (λk h hp=>by have hp: ¬(l[k]).1=s:=of_decide_eq_false hp;simp (disch:=omega) only[K0,EC])
  (λk h hp=>by have hp:(l[k]).1=s:=of_decide_eq_true hp;simp (disch:=omega) only[K0,EC])
  (by simp only[EC,ak0,decide_false,cond_false])
 simp_all[wb,gg];cases l.find? (λx=>decide (x.1=s))<;>rfl
theorem rT {α β:Type} (l:List (List UInt8×α)) (f:List UInt8×α->List UInt8×β) (hf: ∀x,(f x).1=x.1) (s:List UInt8):
  (bG (l.map f) (λx=>decide (x.1=s))= -1/\gg l s=none)\/ ∃k x,∃h:k<(l.map f).length,bG (l.map f) (λx=>decide (x.1=s))=((k:Nat):Int)/\(l.map f)[k]=f x/\gg l s=some x.2/\x∈l/\x.1=s:=by
 have e:(l.map f).findIdx? (λx=>decide (x.1=s))=l.findIdx? (λx=>decide (x.1=s)):=by rw[List.findIdx?_map];congr 1;funext x;show decide ((f x).1=s)=_;rw[hf]
 rcases kX (l.map f) (λx=>decide (x.1=s)) with⟨h1,h2⟩ |⟨k,hk,h1,h2,F,J⟩
 · refine .inl ⟨h2,?_⟩;have:(l.map f).findIdx? (λx=>decide (x.1=s))=none:=by grind
   rw[e] at this;unfold gg;rw[Ss,this];rfl
 · have D:k<l.length:=by rw[ae2] at hk;exact hk
   rw[e] at h1;refine .inr ⟨k,l[k],hk,h2,by rw[ar7],?_,ab7 D,?_⟩
   · simp_all[gg,Ss]
   · grind
theorem aoi (S:aU) (F:cR S) (s:List UInt8):I3 (aC S) s=some (match gg S.ts s with|some t=>(fT t,true) |none=>(0,false)):=by
 have M:=F.xI;unfold I3;rw[show yc (aC S).2.2.2.2 s=_ from W7 (S.ts.map dX) s (by grind)]
 rcases rT S.ts dX (λx=>rfl) s with⟨h1,h2⟩ |⟨k,x,hk,h1,h2,D,J,L⟩
 · grind
 · simp (disch:=omega) only[h1,D];show(ag (S.ts.map dX) k).bind _=_;rw[au hk,h2];rfl
structure qU (cat:List kI):Prop where
 many:cat.length<=6
 all: ∀x∈cat,Gr x
 once:(cat.map (·.1)).Nodup
theorem aoH (S:Gq) (found:Bool) (cl:List UInt8) (D:List (List UInt8)) (hn:D.length<=6): ∀(n k:Nat) (cat:List kI),D.length - k=n->k<=D.length->cat.length=k->qU cat->(∀j (h:j<k) (h2:j<D.length) (J:j<cat.length),rM D[j]=some (gT cat[j],(0,0,0)))->
  (∃F,F.length=D.length/\qU F/\(∀j (h2:j<D.length) (J:j<F.length),rM D[j]=some (gT F[j],(0,0,0)))/\
   ab qk (D,found,(k:Int),[],S.1,S.2.1,S.2.2.1,S.2.2.2.1,S.2.2.2.2,cl,cat.map (·.1),cat,())=some (.inl (found,[],S.1,S.2.1,S.2.2.1,S.2.2.2.1,S.2.2.2.2,cl,F,())))\/
  ab qk (D,found,(k:Int),[],S.1,S.2.1,S.2.2.1,S.2.2.2.1,S.2.2.2.2,cl,cat.map (·.1),cat,())=some (.inr ([],())):=by
 intro n
 induction n with
 |zero=>
  intro k cat hk Y hc hC O;have e:k=D.length:=by omega
  subst e;refine .inl ⟨cat,hc,hC,λj h2 J=>O j h2 h2 J,bk ?_⟩;simp only[qk,ak0,decide_false,cond_false]
 |succ n ih=>
  intro k cat hk Y hc hC O;have N:k<D.length:=by omega
  rcases al4 D[k] with⟨x,Z,h1,h2⟩ |⟨c,l,ah,U,h1,h2⟩
  · have L:=qp (cat.map (·.1)) x.1 (by rw[ae2];omega)
    cases M:cw (cat.map (·.1)) x.1 with
    |true=>rw[M] at L;refine .inr (bk ?_);simp only[qk,dY (show(k:Int)<(D.length:Int) by omega),cond_true,au N,h1,aa7,decide_true,ae8,cond_false,L]
    |false=>
     rw[M] at L
     have e:qk (D,found,(k:Int),[],S.1,S.2.1,S.2.2.1,S.2.2.2.1,S.2.2.2.2,cl,cat.map (·.1),cat,())=some (.inl (D,found,((k+1:Nat):Int),[],S.1,S.2.1,S.2.2.1,S.2.2.2.1,S.2.2.2.2,cl,(cat++[x]).map (·.1),cat++[x],())):=by
      simp only[qk,dY (show(k:Int)<(D.length:Int) by omega),cond_true,au N,h1,aa7,decide_true,ae8,cond_false,L]
      rw[ai (by simp only[ae2,af2,as5];omega),ai (by simp only[af2,as5];omega)]
      simp only[aH,aw (show k+1<=4611686018427387904 by omega),ag9];rfl
     rw[aZ e];refine ih (k+1) (cat++[x]) (by omega) (by omega) (by simp;omega) ⟨by simp;omega,kZ hC.all Z,?_⟩ ?_
     · rw[ag9];exact nR hC.once (r8 M)
     · intro j hj an J;by_cases d:j<cat.length
       · simp_all
       · have:j=k:=by omega
         subst this;rw[List.getElem_append_right (by omega)]
         simp only[hc,Nat.sub_self,List.getElem_cons_zero];exact h2
  · refine .inr (bk ?_);simp only[qk,dY (show(k:Int)<(D.length:Int) by omega),cond_true,au N,h1,aa7,dN U,am7]
theorem akj (p t:List UInt8) (D:List (List UInt8)):
  (∃S cl cat,cR S/\qU cat/\gg S.ts t=some cl/\vO p=some (aC S,(0,0,0))/\cat.length=D.length/\(∀j (h2:j<D.length) (L:j<cat.length),rM D[j]=some (gT cat[j],(0,0,0)))/\
   FC p t D=some ((ao S,cl,cat),true))\/pn (FC p t D) (λr=>r.2=false):=by
 unfold FC;rcases aky p with⟨S,F,h1,h2⟩ |⟨c,l,J,hc,h1,h2⟩
 · simp (disch:=omega) only[K0,h1];by_cases M:6<D.length
   · refine .inr ?_;simp (disch:=omega) only[K0];rfl
   · have N:=F.xI;simp (disch:=omega) only[K0];rw[show wb (ao S).2.2.2.2 t=_ from abQ S.ts t (by omega),aa7]
     simp only[];rcases aoH (ao S) (gg S.ts t).isSome ((gg S.ts t).getD []) D (by omega) _ 0 [] rfl (ae3 _) rfl ⟨ae3 _,(by simp),List.nodup_nil⟩ (by simp) with⟨cat,g1,g2,g3,g4⟩ |g4
     · have g4:ab qk (D,(gg S.ts t).isSome,0,[],(ao S).1,(ao S).2.1,(ao S).2.2.1,(ao S).2.2.2.1,(ao S).2.2.2.2,(gg S.ts t).getD [],[],[],())=_:=g4;rw[g4];cases O:gg S.ts t with
       |none=>exact .inr rfl
       |some cl=>grind
     · have g4:ab qk (D,(gg S.ts t).isSome,0,[],(ao S).1,(ao S).2.1,(ao S).2.2.1,(ao S).2.2.2.1,(ao S).2.2.2.2,(gg S.ts t).getD [],[],[],())=_:=g4;rw[g4];exact .inr rfl
 · refine .inr ?_;simp (disch:=omega) only[K0,h1];rfl
theorem ak3 (p t:List UInt8) (D:List (List UInt8)):
  (∃S cl cat,cR S/\qU cat/\gg S.ts t=some cl/\Dt (p,t,D)=some ((aC S,fT cl,cat.map gT,ao S,cl,cat),true))\/pn (Dt (p,t,D)) (λr=>r.2=false):=by
 unfold Dt;rcases akj p t D with⟨S,cl,cat,J,hC,N,hp,O,M,F⟩ |F
 · refine .inl ⟨S,cl,cat,J,hC,N,?_⟩;have Y:=hC.many;simp (disch:=omega) only[K0,hp,aoi S J t]
   have h:=qt (f:=Jq) cat gT (λk acc=>(true,k,p,t,D,0,[],(aC S).1,(aC S).2.1,(aC S).2.2.1,(aC S).2.2.2.1,(aC S).2.2.2.2,fT cl,(ao S).1,(ao S).2.1,(ao S).2.2.1,(ao S).2.2.2.1,(ao S).2.2.2.2,cl,cat,acc,()))
    (λacc=>(true,0,[],(aC S).1,(aC S).2.1,(aC S).2.2.1,(aC S).2.2.2.1,(aC S).2.2.2.2,fT cl,(ao S).1,(ao S).2.1,(ao S).2.2.1,(ao S).2.2.2.1,(ao S).2.2.2.2,cl,cat,acc,()))
    (λk hk acc Z=>by
     have L:k<D.length:=by omega
     simp only[Jq,dY (show(k)<D.length by omega),cond_true,au L,M k L hk,aa7,decide_true,aw2]
     rw[ai (by grind)]
     simp (disch:=omega) only[K0])
    (by simp only[Jq,O,ak0,decide_false,cond_false])
   grind
 · obtain⟨x,F,U⟩:=jj F;refine .inr ?_;simp (disch:=omega) only[K0,F,U];rfl
structure et {α:Type} (c:α->α->Int):Prop where
 neg: ∀x y,c y x= - c x y
 tr: ∀x y z,c x y<=0->c y z<=0->c x z<=0
def fE {α:Type} (c d:α->α->Int) (x y:α):Int:=if c x y=0 then d x y else c x y
theorem lL:et aP:=⟨fun x y=>by unfold aP;repeat' split
                               all_goals omega,λx y z h1 h2=>by
 grind[aP]
 all_goals omega⟩
theorem et.lex {α:Type} {c d:α->α->Int} (hc:et c) (D:et d):et (fE c d):=by
 refine⟨λx y=>?_,λx y z h1 h2=>?_⟩
 · unfold fE;have:=hc.neg x y;by_cases h:c x y=0
   · simp (disch:=omega) only[K0];exact D.neg x y
   · omega
 · unfold fE at*;have F:=hc.tr x y z;have a2:=hc.tr y z x;have a3:=hc.tr z x y;have J:=hc.tr z y x;have L:=hc.neg x y;have M:=hc.neg y z;have N:=hc.neg x z;have d1:=D.tr x y z;split at h1<;>split at h2<;>split<;>omega
theorem et.on {α β:Type} {c:β->β->Int} (hc:et c) (f:α->β):et (λx y=>c (f x) (f y)):=⟨λx y=>hc.neg _ _,λx y z=>hc.tr _ _ _⟩
def kB {α:Type} (q:α->α->Int) (l m:List α):Int:=if cg q l m=0 then aP l.length m.length else cg q l m
theorem aqy {α:Type} (q:α->α->Int):kB q [] []=0:=rfl
theorem Tb {α:Type} (q:α->α->Int) (y:α) (t:List α):kB q [] (y::t)= -1:=by simp[kB,cg,aP]
theorem Mp {α:Type} (q:α->α->Int) (x:α) (s:List α):kB q (x::s) []=1:=by grind[kB,cg,aP]
theorem FX {α:Type} (q:α->α->Int) (x y:α) (s t:List α):kB q (x::s) (y::t)=if q x y=0 then kB q s t else q x y:=by
 unfold kB;show(if(if q x y=0 then cg q s t else q x y)=0 then _ else _)=_
 by_cases h:q x y=0
 · rw[if_pos h];have:aP ((x::s).length) ((y::t).length)=aP s.length t.length:=S6 (by simp) (by simp)
   rw[this];show(if cg q s t=0 then aP s.length t.length else(if q x y=0 then cg q s t else q x y))=_
   omega
 · simp (disch:=omega) only[K0];show(if q x y=0 then cg q s t else q x y)=_
   omega
theorem Sj {α:Type} {q:α->α->Int} (D:et q):et (kB q):=by
 refine⟨λx y=>?_,λx y z=>?_⟩
 · induction x generalizing y with
   |nil=>cases y with
    |nil=>rfl
    |cons b t=>simp[Tb,Mp]
   |cons a s F=>cases y with
    |nil=>rw[Tb,Mp]
    |cons b t=>
     rw[FX,FX];have:=D.neg a b;by_cases h:q a b=0
     · grind
     · omega
 · induction x generalizing y z with
   |nil=>intro h1 h2;cases z with
    |nil=>rw[aqy];decide
    |cons b t=>simp[Tb]
   |cons a s F=>
    intro h1 h2;cases y with
    |nil=>grind[Mp,FX]
    |cons b t=>cases z with
     |nil=>grind[Mp,FX]
     |cons d u=>rw[FX] at h1 h2⊢;have J:=D.tr a b d;have a2:=D.tr b d a;have a3:=D.tr d a b;have L:=D.tr d b a;have M:=D.neg a b;have N:=D.neg b d;have O:=D.neg a d;have i1:=F t u;split at h1<;>split at h2<;>split<;>omega
theorem aoc:et gJ:=lL.on (λx:UInt8=>x.toNat)
theorem apF (a b:List UInt8):cC a b=kB gJ a b:=abF a b
theorem Aq:et cC:=by
 have:cC=kB gJ:=by funext a b;exact apF a b
 rw[this];exact Sj aoc
def Bq (a:List UInt8):Int:=if a.all bQ=true then 0 else 1
def Bp (a:List UInt8):Int:=if a.all bQ=true then(a.length:Int) else 0
theorem alR (a b:List UInt8):gf a b=fE (λx y=>aP (Bq x) (Bq y)) (fE (λx y=>aP (Bp x) (Bp y)) cC) a b:=by
 unfold gf fE Bq Bp;dsimp only;rcases au7 (a.all bQ) with D |D<;>rcases au7 (b.all bQ) with F |F
 · simp only[D,F,ae8,av7,af7,if_false,true_and,if_true,show aP 0 0=0 by decide]
   by_cases h:a.length=b.length
   · rw[if_neg (by omega),if_pos (gZ.2 (by omega))]
   · rw[if_pos h,if_neg (λg=>h (by have:=gZ.1 g;omega))]
 · simp only[D,F,am7,aw2,if_true,af7,if_false,show aP 0 1= -1 by decide,show¬(-1)=0 by decide]
 · simp only[D,F,av1,af7,if_false,am7,aw2,if_true,show aP 1 0=1 by decide,show¬(1:Int)=0 by decide]
 · simp only[D,F,av1,af7,if_false,false_and,show aP 1 1=0 by decide,show aP 0 0=0 by decide,if_true]
theorem alQ:et gf:=by
 have:gf=fE (λx y=>aP (Bq x) (Bq y)) (fE (λx y=>aP (Bp x) (Bp y)) cC):=by funext a b;exact alR a b
 rw[this];exact(lL.on Bq).lex ((lL.on Bp).lex Aq)
theorem anm:et mP:=by
 have:mP=kB gf:=by funext a b;rfl
 rw[this];exact Sj alQ
def Bf (v:cP):Int:=if v.2=[] then 1 else 0
theorem an3 (a b:cP):eJ a b=fE (λx y=>kB aP (iZ x) (iZ y)) (fE (λx y=>aP (Bf x) (Bf y)) (λx y=>mP (aB 46 x.2) (aB 46 y.2))) a b:=by
 unfold eJ fE Bf
 have e:kB aP (iZ a) (iZ b)=cg aP (iZ a) (iZ b):=by
  unfold kB;split
  · rename_i h;rw[h];rfl
  · rfl
 simp only[e];by_cases h:cg aP (iZ a) (iZ b)=0
 · rw[if_pos h,if_pos h];by_cases h1:a.2=b.2
   · rw[if_pos h1,h1,if_pos (gZ.2 rfl),QX]
   · rw[if_neg h1];by_cases h2:a.2=[]
     · have D: ¬b.2=[]:=λg=>h1 (by grind)
       simp (disch:=omega) only[K0];rfl
     · by_cases D:b.2=[]
       · simp (disch:=omega) only[K0];rfl
       · simp (disch:=omega) only[K0];rfl
 · omega
theorem an2:et eJ:=by
 have:eJ=fE (λx y=>kB aP (iZ x) (iZ y)) (fE (λx y=>aP (Bf x) (Bf y)) (λx y=>mP (aB 46 x.2) (aB 46 y.2))):=by funext a b;exact an3 a b
 rw[this];exact((Sj lL).on iZ).lex ((lL.on Bf).lex (anm.on (λv:cP=>aB 46 v.2)))
theorem et.flip {α:Type} {c:α->α->Int} (hc:et c):et (λx y=>c y x):=⟨λx y=>hc.neg y x,λx y z h1 h2=>hc.tr z y x h2 h1⟩
theorem et.ok {α:Type} {c:α->α->Int} (hc:et c) {P:α->Prop} {cf:α->α->Option Int} (h1: ∀x y,P x->P y->cf x y=some (c x y)) (h2: ∀x y,P x->P y->c x y=0->x=y):il P cf c:=by
 refine⟨h1,λx y z _ _ _ g1 g2=>?_,λx y _ _ g=>?_,λx y D F g1 g2=>h2 x y D F ?_⟩
 · have J:=hc.neg x y;have L:=hc.neg y z;have M:=hc.neg x z;have:=hc.tr x y z (by omega) (by omega)
   omega
 · have:=hc.neg x y;omega
 · have:=hc.neg x y;omega
def lS (g s:List UInt8):Bool:=lW g&&gm s&&(if kq g=true then iM s g.dropLast else decide (g=s))
def gG (g:List UInt8):Int:=if lW g=true then(if kq g=true then 2*(g.dropLast.length:Int) else 2*(g.length:Int)+1) else-1
theorem Re (g:List UInt8) (D:g.length<=20000):KK g=some (gG g):=by
 unfold KK gG;simp only[Ql g D];cases h:lW g with
 |false=>rfl
 |true=>
  simp only[P5 g D,aa7,if_true];have F:g.dropLast.length<=20000:=by rw[List.length_dropLast];omega
  cases h2:kq g with
  |true=>simp only[if_true,ae8,cond_false];rw[ai (bd (by omega))]
  |false=>simp only[af7,if_false];simp (disch:=omega) only[K0]
theorem KR (g:List UInt8) (D:g.length<=20000):EF g=some (gG g):=by
 unfold EF gG;simp only[QD g D];cases h:lW g with
 |false=>rfl
 |true=>
  simp only[QB g D,if_true];cases h2:kq g with
  |true=>
   have h0:0<g.length:=by rw[KW h2];simp
   simp (disch:=omega) only[K0,List.length_dropLast];grind
  |false=>simp only[af7,if_false];simp (disch:=omega) only[K0]
theorem match_eq (g s:List UInt8) (D:g.length<=20000) (hs:s.length<=20000):K6 g s=some (lS g s):=by
 unfold K6 lS;simp only[Ql g D];cases h:lW g with
 |false=>rfl
 |true=>
  simp (disch:=omega) only[DO s hs];cases F:gm s with
  |false=>rfl
  |true=>
   simp (disch:=omega) only[K0,P5 g D];cases h2:kq g with
   |true=>simp only[if_true,ae8,cond_false,PN,Xc s _ hs,aa7]
   |false=>rfl
theorem Ly (g s:List UInt8) (D:g.length<=20000) (hs:s.length<=20000):Ls g s=some (lS g s):=by
 unfold Ls lS;simp only[QD g D];cases h:lW g with
 |false=>rfl
 |true=>
  simp only[Kk s hs];cases J:gm s with
  |false=>rfl
  |true=>
   simp only[QB g D,aa7];cases h2:kq g with
   |false=>rfl
   |true=>
    have L:=KW h2;have h0:0<g.length:=by grind
    simp only[ae8,cond_false];rw[ai (bd (by omega))]
    have F:g.take (g.length - 1)=g.dropLast:=by grind
    by_cases c:g.length - 1<=s.length
    · rw[dY (by omega)]
      simp only[cond_true];simp (disch:=omega) only[K0];simp[iM,F]
    · grind[iM]
def oc (s:List UInt8):List (List UInt8)->Nat->Int->Int->Int
 |[],_,a,_=>a
 |g::t,k,a,D=>if D<gG g/\lS g s=true then oc s t (k+1) (k:Int) (gG g) else oc s t (k+1) a D
def MZ (s:List UInt8) (l:List (List UInt8)):Int:=oc s l 0 (-1) (-1)
theorem match_glob {g s:List UInt8} (h:lS g s=true):0<=gG g:=by grind[lS,gG]
theorem al0 (s:List UInt8) (hs:s.length<=20000) (l:List (List UInt8)) (N: ∀g∈l,g.length<=20000) (O:l.length<=1000):D2 s l=some (MZ s l):=by
 have main: ∀n k at_ D,l.length - k=n->k<=l.length->ab qf (s,at_,D,l,l.length,k,())=some (oc s (l.drop k) k at_ D,()):=by
  intro n
  induction n with
  |zero=>
   intro k at_ D hk M;have e:k=l.length:=by omega
   subst e;rw[au0];refine bk ?_;simp (disch:=omega) only[K0,qf];rfl
  |succ n J=>
   intro k at_ D hk M;have L:k<l.length:=by omega
   have F:=N _ (ab7 L);rw[ak7 L];show _=some ((if D<gG l[k]/\lS l[k] s=true then oc s (l.drop (k+1)) (k+1) k (gG l[k]) else oc s (l.drop (k+1)) (k+1) at_ D),())
   by_cases c:D<gG l[k]
   · cases c2:lS l[k] s with
     |true=>
      have e:qf (s,at_,D,l,l.length,k,())=some (.inl (s,k,gG l[k],l,l.length,(k+1:Nat),())):=by simp (disch:=omega) only[K0,qf,Re _ F,match_eq _ s F hs,c2]
      rw[aZ e,J (k+1) _ _ (by omega) (by omega),if_pos ⟨c,rfl⟩]
     |false=>
      have e:qf (s,at_,D,l,l.length,k,())=some (.inl (s,at_,D,l,l.length,(k+1:Nat),())):=by simp (disch:=omega) only[K0,qf,Re _ F,match_eq _ s F hs,c2]
      rw[aZ e,J (k+1) _ _ (by omega) (by omega),if_neg (by simp)]
   · have e:qf (s,at_,D,l,l.length,k,())=some (.inl (s,at_,D,l,l.length,(k+1:Nat),())):=by
       simp (disch:=omega) only[K0,qf,Re _ F]
     rw[aZ e,J (k+1) _ _ (by omega) (by omega),if_neg (by omega)]
 unfold D2;rw[show ab qf (s,-1,-1,l,l.length,0,())=_ from main _ 0 (-1) (-1) rfl (ae3 _)]
 rfl
def WAt (l:List (List UInt8)) (a D:Int):Prop:=(a= -1/\D= -1)\/ ∃j,∃h:j<l.length,a=((j:Nat):Int)/\D=gG l[j]
def Nc (l:List (List UInt8)) (s:List UInt8) (a:Int):Prop:=a= -1\/ ∃j,∃h:j<l.length,a=((j:Nat):Int)/\lS l[j] s=true
theorem akF (s:List UInt8) (hs:s.length<=20000) (l:List (List UInt8)) (U: ∀g∈l,g.length<=20000) (Z:l.length<=1000):Ee s l=some (MZ s l):=by
 have main: ∀n k (at_ F:Int),l.length - k=n->k<=l.length->WAt l at_ F->ab nO (s,l,at_,(k:Int),())=some (oc s (l.drop k) k at_ F,()):=by
  intro n
  induction n with
  |zero=>
   intro k at_ F hk Y _;have e:k=l.length:=by omega
   subst e;rw[au0];refine bk ?_;simp only[nO,ak0,decide_false,cond_false];rfl
  |succ n N=>
   intro k at_ F hk Y hinv;have D:k<l.length:=by omega
   have J:=U _ (ab7 D);have L:k+1<=4611686018427387904:=by omega
   rw[ak7 D];show _=some ((if F<gG l[k]/\lS l[k] s=true then oc s (l.drop (k+1)) (k+1) (k:Int) (gG l[k]) else oc s (l.drop (k+1)) (k+1) at_ F),())
   cases c2:lS l[k] s with
   |false=>
    have e:nO (s,l,at_,(k:Int),())=some (.inl (s,l,at_,((k+1:Nat):Int),())):=by simp only[nO,dY (show(k:Int)<(l.length:Int) by omega),cond_true,cond_false,au D,aa7,Ly _ s J hs,c2,aH,aw L]
    rw[aZ e,N (k+1) _ _ (by omega) (by omega) hinv,if_neg (λg=>by cases g.2)]
   |true=>
    have hw:=match_glob c2;rcases hinv with⟨h1,h2⟩ |⟨j,M,h1,h2⟩
    · have e:nO (s,l,at_,(k:Int),())=some (.inl (s,l,(k:Int),((k+1:Nat):Int),())):=by
        simp only[nO,dY (show(k:Int)<(l.length:Int) by omega),cond_true,au D,aa7,Ly _ s J hs,c2,dY (show at_<0 by omega),aH,aw L]
      rw[aZ e,N (k+1) _ (gG l[k]) (by omega) (by omega) (.inr ⟨k,D,rfl,rfl⟩),if_pos ⟨by omega,rfl⟩]
    · subst h1;have O:=U _ (ab7 M);by_cases c:gG l[j]<gG l[k]
      · have e:nO (s,l,(j:Int),(k:Int),())=some (.inl (s,l,(k:Int),((k+1:Nat):Int),())):=by
          simp only[nO,dY (show(k:Int)<(l.length:Int) by omega),cond_true,cond_false,au D,aa7,Ly _ s J hs,c2,dN (show¬((j:Nat):Int)<0 by omega),KR _ J,au M,KR _ O,dY c,aH,aw L]
        rw[aZ e,N (k+1) _ (gG l[k]) (by omega) (by omega) (.inr ⟨k,D,rfl,rfl⟩),if_pos ⟨by omega,rfl⟩]
      · have e:nO (s,l,(j:Int),(k:Int),())=some (.inl (s,l,(j:Int),((k+1:Nat):Int),())):=by
          simp only[nO,dY (show(k:Int)<(l.length:Int) by omega),cond_true,cond_false,au D,aa7,Ly _ s J hs,c2,dN (show¬((j:Nat):Int)<0 by omega),KR _ J,au M,KR _ O,dN c,aH,aw L]
        rw[aZ e,N (k+1) _ F (by omega) (by omega) (.inr ⟨j,M,rfl,h2⟩),if_neg (λg=>c (by omega))]
 unfold Ee;rw[show ab nO (s,l,-1,0,())=_ from main _ 0 (-1) (-1) rfl (ae3 _) (.inl ⟨rfl,rfl⟩),aa7]
 rw[au3];rfl
theorem KM (s:List UInt8) (l:List (List UInt8)):Nc l s (MZ s l):=by
 have main: ∀n k at_ D,l.length - k=n->k<=l.length->Nc l s at_->Nc l s (oc s (l.drop k) k at_ D):=by
  intro n
  induction n with
  |zero=>
   intro k at_ D hk J h;have e:k=l.length:=by omega
   subst e;rw[au0];exact h
  |succ n L=>
   intro k at_ D hk J h;have F:k<l.length:=by omega
   rw[ak7 F];show Nc l s (if D<gG l[k]/\lS l[k] s=true then oc s (l.drop (k+1)) (k+1) k (gG l[k]) else oc s (l.drop (k+1)) (k+1) at_ D)
   by_cases c:D<gG l[k]/\lS l[k] s=true
   · rw[if_pos c];exact L (k+1) _ _ (by omega) (by omega) (.inr ⟨k,F,rfl,c.2⟩)
   · grind
 have:=main _ 0 (-1) (-1) rfl (ae3 _) (.inl rfl);rw[au3] at this;exact this
def lT (S:aU):List (List UInt8):=S.cs.map (·.1)
def ko (S:aU) (s:List UInt8):Int:=MZ s (lT S)
theorem XD {S:aU} (D:cR S): ∀g∈lT S,g.length<=20000:=λg F=>by obtain⟨x,J,rfl⟩:=ar1.1 F;have:=(D.cs x J).2.1;omega
theorem Yb {S:aU} (D:cR S):(lT S).length<=1000:=by unfold lT;rw[ae2];have:=D.vm;omega
theorem aaL (S:aU) (D:cR S) (s:List UInt8) (hs:s.length<=20000):D8 (aC S) s=some (ko S s):=by
 have h:=qt (f:=DK) (S.cs.map cy) (λx=>x.1) (λk acc=>(s,S.cs.map cy,((S.cs.map cy).length),k,acc,())) (λacc=>(s,acc,())) (λk hk acc J=>by
  have F:=D.vm;have:k<S.cs.length:=by grind
  simp only[DK];simp (disch:=omega) only[K0]) (by
  simp only[DK,ak0,decide_false,cond_false])
 unfold D8;rw[show ab DK (s,(aC S).2.1,((aC S).2.1.length),0,[],())=_ from h]
 simp (disch:=omega) only[K0,Z5];rw[show D2 s (S.cs.map (·.1))=_ from al0 s hs (lT S) (XD D) (Yb D)];rfl
theorem Zi (S:aU) (D:cR S) (s:List UInt8) (hs:s.length<=20000):E9 (ao S) s=some (ko S s):=by
 have h:=qt (f:=CU) S.cs (λx=>x.1) (λk acc=>(k,S.ss.map bD,S.cs,S.ps,S.hs,S.ts,acc,())) (λacc=>(acc,())) (λk hk acc J=>by
  have F:=D.vm;simp only[CU];simp (disch:=omega) only[K0]) (by
  simp only[CU,ak0,decide_false,cond_false])
 unfold E9 PJ;rw[show ab CU (0,(ao S).1,(ao S).2.1,(ao S).2.2.1,(ao S).2.2.2.1,(ao S).2.2.2.2,[],())=_ from h]
 simp only[aa7];rw[show Ee s (S.cs.map (·.1))=_ from akF s hs (lT S) (XD D) (Yb D)];rfl
abbrev ug:=List UInt8×List UInt8×List (List UInt8)
def MG (S:aU):List (List UInt8):=S.ss.map (·.1)
def tc (S:aU) (c:ug):List (List UInt8):=if c.2.1=hW then c.2.2 else(MG S).filter λn=>cw c.2.2 n==decide (c.2.1=iF)
theorem KO {α:Type} (l:List α) (p:α->Bool):l.filter p=l.flatMap λx=>if p x=true then[x] else[]:=by
 induction l with
 |nil=>rfl
 |cons x t D=>grind
theorem rU {α β:Type} (l:List α) (e:α->List β) (he: ∀x,(e x).length<=1):(l.flatMap e).length<=l.length:=by
 induction l with
 |nil=>grind
 |cons x t D=>grind
theorem Q3 {k:List UInt8} (h:k∈tX):(Gj k=2<->k=hW)/\(Gj k=0<->k=iF)/\(¬k=hW-> ¬k=iF->k=pe):=by simp only[tX,ai3,at9,or_false] at h;rcases h with h |h |h<;>subst h<;>decide
theorem asu (S:aU) (D:cR S) (c:ug) (hc:c∈S.cs):LM (aC S) (cy c)=some (tc S c):=by
 obtain⟨_,_,hk,L,_,_⟩:=D.cs c hc;obtain⟨k1,k2,k3⟩:=Q3 hk;have M:=D.mr;unfold LM tc;by_cases h:c.2.1=hW
 · rw[if_pos h,dY (show(cy c).2.1=2 from k1.2 h),cond_true,show Fq (cy c).2.2=some c.2.2 from if_pos (show c.2.2.length<1000000 by omega)];rfl
 · rw[if_neg h,dN (show¬(cy c).2.1=2 from λg=>h (k1.1 g))]
   simp only[cond_false]
   have F:decide ((cy c).2.1=0)=decide (c.2.1=iF):=by
    by_cases g:c.2.1=iF
    · rw[dY g];exact dY (show(cy c).2.1=0 from k2.2 g) _
    · rw[dN g];exact dN (show¬(cy c).2.1=0 from λq=>g (k2.1 q)) _
   have J:=tH (f:=Eu) (S.ss.map cu) (λx=>if(cw c.2.2 x.1==decide (c.2.1=iF))=true then[x.1] else[]) (λk acc=>(S.ss.map cu,((S.ss.map cu).length:Int),(k:Int),(cy c).1,(cy c).2.1,(cy c).2.2,acc,())) (λacc=>(acc,()))
    (fun k hk=>by
     have hlen:=rU ((S.ss.map cu).take k) (λx=>if(cw c.2.2 x.1==decide (c.2.1=iF))=true then[x.1] else[]) (λx=>by show(if _ then[x.1] else[]).length<=1;split<;>simp)
     rw[am9] at hlen;have O:k<S.ss.length:=by rw[ae2] at hk;exact hk
     simp only[Eu,dY (show(k:Int)<((S.ss.map cu).length:Int) by omega),cond_true,au hk]
     rw[show p8 (cy c).2.2 ((S.ss.map cu)[k]).1=_ from zo c.2.2 _ (by omega),aa7,F]
     cases N:(cw c.2.2 ((S.ss.map cu)[k]).1==decide (c.2.1=iF)) with
     |true=>
      simp only[cond_true,if_true];rw[ai (by simp only[af2,as5];omega)]
      simp only[aH,aw (show k+1<=4611686018427387904 by omega)]
     |false=>simp only[cond_false,af7,if_false,ag5,aH,aw (show k+1<=4611686018427387904 by omega)]) (by
     simp only[Eu,ak0,decide_false,cond_false])
   rw[show ab Eu ((aC S).1,((aC S).1.length:Int),0,(cy c).1,(cy c).2.1,(cy c).2.2,[],())=_ from J,aa7]
   congr 1;rw[KO,MG,List.flatMap_map,List.flatMap_map];rfl
theorem arT (S:aU) (F:cR S) (c:ug) (hc:c∈S.cs):MD (ao S) c=some (tc S c):=by
 obtain⟨_,_,hk,N,_,_⟩:=F.cs c hc;obtain⟨k1,k2,k3⟩:=Q3 hk;have O:=F.mr;unfold MD tc;by_cases h:c.2.1=hW
 · rw[if_pos h,dY h];simp only[cond_true];rw[ai (by omega)]
 · rw[if_neg h,dN h];simp only[cond_false]
   have M:=tH (f:=FD) (S.ss.map bD) (λx=>if(cw c.2.2 x.1==decide (c.2.1=iF))=true then[x.1] else[]) (λk acc=>((k:Int),S.ss.map bD,S.cs,S.ps,S.hs,S.ts,c.1,c.2.1,c.2.2,acc,())) (λacc=>(acc,()))
    (fun k hk=>by
     have hlen:=rU ((S.ss.map bD).take k) (λx=>if(cw c.2.2 x.1==decide (c.2.1=iF))=true then[x.1] else[]) (by grind)
     rw[am9] at hlen;have U:k<S.ss.length:=by rw[ae2] at hk;exact hk
     generalize((S.ss.map bD).take k).flatMap (λx=>if(cw c.2.2 x.1==decide (c.2.1=iF))=true then[x.1] else[])=acc at hlen⊢
     simp only[FD,dY (show(k:Int)<((S.ss.map bD).length:Int) by omega),au hk]
     rw[qp c.2.2 _ (by omega),aa7]
     by_cases D:c.2.1=iF
     · cases L:cw c.2.2 ((S.ss.map bD)[k]).1 with
       |true=>
        simp only[dY D,cond_true,beq_self_eq_true,if_true];rw[ai (by grind)]
        simp (disch:=omega) only[K0]
       |false=>simp only[dY D,cond_true,cond_false,dN (show¬c.2.1=pe by rw[D];decide),show(false==true)=false by rfl,af7,if_false,ag5,aH,aw (show k+1<=4611686018427387904 by omega)]
     · have J:=k3 h D;cases L:cw c.2.2 ((S.ss.map bD)[k]).1 with
       |true=>simp only[dN D,dY J,cond_true,cond_false,ae8,show(true==false)=false by rfl,af7,if_false,ag5,aH,aw (show k+1<=4611686018427387904 by omega)]
       |false=>
        simp only[dN D,dY J,cond_true,cond_false,am7,beq_self_eq_true,if_true];rw[ai (by simp (disch:=omega) only[K0];omega)]
        simp (disch:=omega) only[K0]) (by
     simp only[FD,ak0,decide_false,cond_false])
   rw[show ab FD (0,(ao S).1,(ao S).2.1,(ao S).2.2.1,(ao S).2.2.2.1,(ao S).2.2.2.2,c.1,c.2.1,c.2.2,[],())=_ from M]
   congr 1;rw[KO,MG,List.flatMap_map,List.flatMap_map];rfl
def MV (S:aU):List (List UInt8):=(S.ss.filter λx=>decide (x.2.2=jJ)).map (·.1)
def lO (S:aU) (s:List UInt8):List (List UInt8):=if gm s=true then(if 0<=ko S s then(match S.cs[(ko S s).toNat]? with|some c=>tc S c |none=>[]) else MV S) else[]
theorem X3 (S:aU):MV S=S.ss.flatMap λx=>if decide (x.2.2=jJ)=true then[x.1] else[]:=by
 unfold MV
 induction S.ss with
 |nil=>rfl
 |cons x t D=>grind
theorem XN (S:aU) (D:cR S) (s:List UInt8) (hs:s.length<=20000):yU (aC S) s=some (lO S s):=by
 have M:=D.mr;unfold yU lO;rw[DO s hs];cases hc:gm s with
 |false=>rfl
 |true=>
  simp only[aaL S D s hs,aa7,if_true];rcases KM s (lT S) with h |⟨j,F,h,_⟩
  · have h:ko S s= -1:=h;simp (disch:=omega) only[K0]
    have L:=tH (f:=Dv) (S.ss.map cu) (λx=>if x.2.2=true then[x.1] else[]) (λk acc=>(S.ss.map cu,((S.ss.map cu).length),k,acc,())) (λacc=>(acc,()))
     (fun k hk=>by
      have hlen:=rU ((S.ss.map cu).take k) (λx=>if x.2.2=true then[x.1] else[]) (by simp)
      rw[am9] at hlen;have U:k<S.ss.length:=by rw[ae2] at hk;exact hk
      simp only[Dv,dY (show(k)<((S.ss.map cu).length:Int) by omega),cond_true,au hk]
      cases N:((S.ss.map cu)[k]).2.2 with
      |true=>
       simp only[cond_true,if_true];rw[ai (by grind)]
       simp (disch:=omega) only[K0]
      |false=>simp only[cond_false,af7,if_false,ag5,aH,aw (show k+1<=4611686018427387904 by omega)]) (by
      simp only[Dv,ak0,decide_false,cond_false])
    rw[show ab Dv ((aC S).1,((aC S).1.length),0,[],())=_ from L,X3,List.flatMap_map];rfl
  · have h:ko S s=j:=h;have J:j<S.cs.length:=by unfold lT at F;rw[ae2] at F;exact F
    have O:j<(S.cs.map cy).length:=by grind
    rw[h,if_pos (by simp),ae9,ae6 J]
    simp only[cond_true];show(ag (S.cs.map cy) j).bind _=_;simp (disch:=omega) only[K0,ar7,asu S D _ (ab7 J)]
theorem aj2 (S:aU) (D:cR S) (s:List UInt8) (hs:s.length<=20000):Eb (ao S) s=some (lO S s):=by
 have M:=D.mr;unfold Eb lO;rw[Kk s hs];cases hc:gm s with
 |false=>rfl
 |true=>
  simp only[Zi S D s hs,aa7,if_true];rcases KM s (lT S) with h |⟨j,F,h,_⟩
  · have h:ko S s= -1:=h;simp (disch:=omega) only[K0]
    have L:=tH (f:=DM) (S.ss.map bD) (λx=>if decide (x.2.2=jJ)=true then[x.1] else[]) (λk acc=>(k,S.ss.map bD,S.cs,S.ps,S.hs,S.ts,acc,())) (λacc=>(acc,()))
     (λk hk=>by
      have hlen:=rU ((S.ss.map bD).take k) (λx=>if decide (x.2.2=jJ)=true then[x.1] else[]) (by grind)
      rw[am9] at hlen;have O:k<S.ss.length:=by rw[ae2] at hk;exact hk
      simp only[DM,dY (show(k)<((S.ss.map bD).length:Int) by omega),cond_true,au hk]
      cases N:decide (((S.ss.map bD)[k]).2.2=jJ) with
      |true=>simp_all;simp (disch:=omega) only[K0]
      |false=>simp only[cond_false,af7,if_false,ag5,aH,aw (show k+1<=4611686018427387904 by omega)]) (by
      simp only[DM,ak0,decide_false,cond_false])
    rw[show ab DM (0,(ao S).1,(ao S).2.1,(ao S).2.2.1,(ao S).2.2.2.1,(ao S).2.2.2.2,[],())=_ from L,X3,List.flatMap_map];rfl
  · have h:ko S s=j:=h;have J:j<S.cs.length:=by unfold lT at F;rw[ae2] at F;exact F
    rw[h,if_pos (by simp),ae9,ae6 J]
    simp only[cond_true];show(ag S.cs j).bind _=_;simp (disch:=omega) only[K0,arT S D _ (ab7 J)]
theorem aq5 (S:aU) (D:cR S) (c:ug) (hc:c∈S.cs):(tc S c).length<=100:=by
 have F:=(D.cs c hc).2.2.2.1;have J:=D.mr;unfold tc MG;split
 · omega
 · grind
theorem XO (S:aU) (D:cR S) (s:List UInt8):(lO S s).length<=100:=by
 have F:=D.mr;unfold lO;split
 · split
   · split
     · rename_i c hc;exact aq5 S D c (List.mem_of_getElem? hc)
     · grind
   · grind[MV]
 · grind
theorem amH (S:aU) (D:cR S) (s src:List UInt8) (hs:s.length<=20000):DT (aC S) s src=some (cw (lO S s) src):=by unfold DT;have:=XO S D s;rw[XN S D s hs,aa7,zo _ _ (by omega),aa7]
def qJ (S:aU) (s:List UInt8):Option ug:=if 0<=ko S s then(S.cs[(ko S s).toNat]?).filter λc=>decide (c.2.1=hW) else none
theorem apr (S:aU) (F:cR S) (s:List UInt8) (hs:s.length<=20000):D7 (aC S) s=some (qJ S s).isSome:=by
 unfold D7 qJ;rw[aaL S F s hs,aa7];rcases KM s (lT S) with h |⟨j,D,h,_⟩
 · have h:ko S s= -1:=h;simp (disch:=omega) only[K0];rfl
 · have h:ko S s=j:=h;have J:j<S.cs.length:=by unfold lT at D;rw[ae2] at D;exact D
   have L:j<(S.cs.map cy).length:=by grind
   rw[h,dY (by simp)]
   simp only[cond_true];show(ag (S.cs.map cy) j).bind _=_;rw[au L,ar7];have k1:=(Q3 (F.cs _ (ab7 J)).2.2.1).1;by_cases g:(S.cs[j]).2.1=hW
   · rw[dY (show(cy S.cs[j]).2.1=2 from k1.2 g)]
     grind
   · rw[dN (show¬(cy S.cs[j]).2.1=2 from λq=>g (k1.1 q))]
     grind
theorem Y1 {d:Nat} (h:d<16):gM (uF d).toNat=d/\eL (uF d)=true:=by
 have: ∀d:Fin 16,gM (uF d.val).toNat=d.val/\eL (uF d.val)=true:=by decide
 exact this ⟨d,h⟩
theorem anL (b:Nat): ∀n,n<=16->b<16 ^16->((List.range n).map λi=>uF (b/16 ^(15 - i)%16)).foldl de 0=b/16 ^(16 - n):=by
 intro n
 induction n with
 |zero=>grind
 |succ n L=>
  intro M J;rw[List.range_succ,ag9,List.foldl_append,L (by omega) J]
  show de (b/16 ^(16 - n)) (uF (b/16 ^(15 - n)%16))=_;unfold de;rw[(Y1 (Nat.mod_lt _ (by simp))).1]
  have D:16 - n=(15 - n)+1:=by omega
  have F:16 - (n+1)=15 - n:=by omega
  rw[D,F,Nat.pow_succ,<-Nat.div_div_eq_div_mul];omega
theorem anM {b:Nat} (D:b<18446744073709551616):dn (xf b)=b:=by rw[Tj];have:=anL b 16 (ab8 _) D;unfold xf;rw[this];rw[Nat.div_one]
theorem anN (b:Nat):ir (xf b)=true:=by unfold ir xf;simp[List.all_map];intro i _;exact(Y1 (Nat.mod_lt _ (by simp))).2
theorem XS (b:Nat) (F:b<18446744073709551616): ∃D:Nat,D<18446744073709551616/\nT (Bd b)=some ((D:Int),true)/\fj D=fj b:=by
 unfold Bd;cases J:qX b with
 |true=>
  refine⟨9221120237041090561,by decide,?_,?_⟩
  · simp (disch:=omega) only[KG];rfl
  · unfold fj;rw[J,if_pos rfl,if_pos (by decide)]
 |false=>refine⟨b,F,?_,rfl⟩;obtain⟨h1,h2⟩:=vT (anN b);rw[if_neg (by simp),KG,if_pos ⟨h1,h2⟩,anM F]
def eI (S:aU) (s:List UInt8):Int:=match gg S.ss s with|some _=>0 |none=>1
def gw (S:aU) (s:List UInt8):Int:=match gg S.ss s with|some x=> -((fj (dn x.1):Nat):Int) |none=>0
def xi (S:aU) (a b:List UInt8):Int:=fE (λx y=>aP (eI S x) (eI S y)) (fE (λx y=>aP (gw S x) (gw S y)) cC) a b
theorem apD (S:aU):et (xi S):=(lL.on (eI S)).lex ((lL.on (gw S)).lex Aq)
theorem oY {α:Type} {c d:α->α->Int} {x y:α} (h:fE c d x y=0):c x y=0/\d x y=0:=by grind[fE]
theorem an5 {S:aU} {a b:List UInt8} (h:xi S a b=0):a=b:=qv (oY (oY h).2).2
theorem aaK (a b:Nat):jR b a=aP (-((fj a:Nat):Int)) (-((fj b:Nat):Int)):=by simp[jR,aP]
theorem aaJ (S:aU) (a b:List UInt8):xi S a b=if aP (eI S a) (eI S b)=0 then(if aP (gw S a) (gw S b)=0 then cC a b else aP (gw S a) (gw S b)) else aP (eI S a) (eI S b):=rfl
theorem akS (S:aU) (F:cR S) (a b:List UInt8):J5 (aC S) a b=some (xi S a b):=by
 have h8:=F.mr;have hp: ∀s,ti (aC S) s=some (bG (S.ss.map cu) λx=>decide (x.1=s)):=λs=>by unfold ti;rw[show yd (aC S).1 s=_ from Qj (S.ss.map cu) s (by rw[ae2];omega),aa7]
 unfold J5;rw[hp a,hp b,aa7,aa7,aaJ];rcases rT S.ss cu (λx=>rfl) a with⟨h1,h2⟩ |⟨k,x,hk,h1,h2,M,O,Z⟩
 · have D:eI S a=1:=by unfold eI;rw[h2]
   have J:gw S a=0:=by unfold gw;rw[h2]
   rcases rT S.ss cu (λx=>rfl) b with⟨g1,g2⟩ |⟨j,y,N,g1,g2,g3,g4,g5⟩
   · have mb:eI S b=1:=by unfold eI;rw[g2]
     have L:gw S b=0:=by unfold gw;rw[g2]
     rw[h1,g1,D,mb,J,L];simp only[show decide ((-1:Int)<0)=true by decide,cond_true,DR,aa7,show aP 1 1=0 by decide,show aP 0 0=0 by decide,if_true]
   · have mb:eI S b=0:=by unfold eI;rw[g3]
     rw[h1,g1,D,mb];simp only[show decide ((-1:Int)<0)=true by decide,cond_true,dN (show¬((j:Nat):Int)<0 by omega),cond_false,show aP 1 0=1 by decide,show¬(1:Int)=0 by decide,if_false]
 · have D:eI S a=0:=by unfold eI;rw[M]
   have J:gw S a= -((fj (dn x.2.1):Nat):Int):=by unfold gw;rw[M]
   rcases rT S.ss cu (λx=>rfl) b with⟨g1,g2⟩ |⟨j,y,N,g1,g2,g3,g4,g5⟩
   · have mb:eI S b=1:=by unfold eI;rw[g2]
     rw[h1,g1,D,mb];simp only[dN (show¬((k:Nat):Int)<0 by omega),cond_false,show decide ((-1:Int)<0)=true by decide,cond_true,show aP 0 1= -1 by decide,show¬(-1:Int)=0 by decide,if_false]
   · have mb:eI S b=0:=by unfold eI;rw[g3]
     have L:gw S b= -((fj (dn y.2.1):Nat):Int):=by unfold gw;rw[g3]
     rw[h1,g1,D,mb,J,L];simp only[dN (show¬((k:Nat):Int)<0 by omega),dN (show¬((j:Nat):Int)<0 by omega),cond_false,show aP 0 0=0 by decide,if_true]
     show(ag (S.ss.map cu) (j:Int)).bind _=_;rw[au N];show(ag (S.ss.map cu) (k:Int)).bind _=_;rw[au hk,h2,g2];have U:=vT (F.ss x O).2.1;have Y:=vT (F.ss y g4).2.1;have e:DL (cu y).2.1 (cu x).2.1=some (jR (dn y.2.1) (dn x.2.1)):=if_pos ⟨FY _ (by omega) Y.2,FY _ (by omega) U.2⟩
     rw[e,aa7,aaK];by_cases c:aP (-((fj (dn x.2.1):Nat):Int)) (-((fj (dn y.2.1):Nat):Int))=0
     · grind[DR]
     · grind
theorem akU (S:aU) (F:cR S) (a b:List UInt8) (N:a.length<=20000):Ec (ao S) a b=some (xi S a b):=by
 have h8:=F.mr;have hp: ∀s,vH (ao S) s=some (bG (S.ss.map bD) λx=>decide (x.1=s)):=λs=>YH (ao S) s (by show(S.ss.map bD).length<=1000;rw[ae2];omega)
 unfold Ec;simp (disch:=omega) only[hp a,hp b,aaJ];rcases rT S.ss bD (λx=>rfl) a with⟨h1,h2⟩ |⟨k,x,hk,h1,h2,M,U,h5⟩
 · have D:eI S a=1:=by unfold eI;rw[h2]
   have J:gw S a=0:=by unfold gw;rw[h2]
   rcases rT S.ss bD (λx=>rfl) b with⟨g1,g2⟩ |⟨j,y,O,g1,g2,g3,g4,g5⟩
   · have mb:eI S b=1:=by unfold eI;rw[g2]
     have L:gw S b=0:=by unfold gw;rw[g2]
     rw[h1,g1,D,mb,J,L];simp[show decide (0<=(-1))=false by decide,y' a b N,show aP 1 1=0 by decide,show aP 0 0=0 by decide]
   · have mb:eI S b=0:=by unfold eI;rw[g3]
     rw[h1,g1,D,mb];simp[cond_true,show aP 1 0=1 by decide]
 · have D:eI S a=0:=by unfold eI;rw[M]
   have J:gw S a= -((fj (dn x.2.1)):Int):=by unfold gw;rw[M]
   rcases rT S.ss bD (λx=>rfl) b with⟨g1,g2⟩ |⟨j,y,O,g1,g2,g3,g4,g5⟩
   · have mb:eI S b=1:=by unfold eI;rw[g2]
     rw[h1,g1,D,mb];simp[cond_false,cond_true,show aP 0 1= -1 by decide]
   · have mb:eI S b=0:=by unfold eI;rw[g3]
     have L:gw S b= -((fj (dn y.2.1)):Int):=by unfold gw;rw[g3]
     rw[h1,g1,D,mb,J,L];simp[dN (show¬(j:Int)<0 by omega),cond_false,show aP 0 0=0 by decide]
     have Y:=vT (F.ss x U).2.1;have Z:=vT (F.ss y g4).2.1;obtain⟨bx,x1,x2,x3⟩:=XS (dn x.2.1) (FY _ (by omega) Y.2)
     obtain⟨ah,y1,y2,y3⟩:=XS (dn y.2.1) (FY _ (by omega) Z.2)
     show(ag (S.ss.map bD) k).bind _=_;simp (disch:=omega) only[K0,h2,show nT (bD x).2.1=_ from x2]
     show(ag (S.ss.map bD) j).bind _=_;rw[au O,g2,show nT (bD y).2.1=_ from y2]
     simp[];rw[aio _ _ y1 x1,aa7,aaK,x3,y3];by_cases c:aP (-((fj (dn x.2.1)):Int)) (-((fj (dn y.2.1)):Int))=0
     · rw[if_pos c];simp (disch:=omega) only[K0,y' a b N]
     · rw[dN c,if_neg c];rfl
def xg (S:aU) (n d:List UInt8):Bool:=match gg S.hs n with|some D=>cw D d |none=>true
def iX (S:aU) (e:bO):Int:=match gg S.ps e.1 with
 |some v=>if v=e.2.1 then(if xg S e.1 e.2.2.1=true then 0 else 2) else 1
 |none=>if xg S e.1 e.2.2.1=true then(if e.2.2.2.2.1=true then 3 else 0) else 2
theorem hash_eq (S:aU) (D:cR S) (n d:List UInt8) (L:ir d=true):yx (aC S) n (gh d)=some (xg S n d):=by
 have N:=D.xO;unfold yx xg;rw[show yf (aC S).2.2.2.1 n=_ from X1 (S.hs.map dP) n (by grind)]
 rcases rT S.hs dP (λx=>rfl) n with⟨h1,h2⟩ |⟨k,x,hk,h1,h2,F,J,O⟩
 · grind
 · simp (disch:=omega) only[h1,F];show(ag (S.hs.map dP) k).bind _=_;obtain⟨_,U,Y,_,M⟩:=D.hs x J;simp (disch:=omega) only[K0,h2,show yl (dP x).2 (gh d)=_ from Xd (x.2.map gh) (gh d) (by grind),aby x.2 d M L]
theorem has_eq (S:aU) (D:cR S) (n d:List UInt8):Av S.hs n d=some (xg S n d):=by
 have F:=D.xO
 have h:=tI (f:=E') S.hs (λx=>decide (x.1=n)) (λk=>(S.hs,n,d,k,())) (λx=>Sum.inr (cw x.2 d,())) (Sum.inl ())
  (λk h hp=>by have hp: ¬(S.hs[k]).1=n:=of_decide_eq_false hp;simp (disch:=omega) only[K0,E'])
  (λk h hp=>by have hp:(S.hs[k]).1=n:=of_decide_eq_true hp;have J:=(D.hs _ (ab7 h)).2.2.1;simp (disch:=omega) only[K0,E',qp _ d (show(S.hs[k]).2.length<=1000000 by omega)])
  (by simp only[E',ak0,decide_false,cond_false])
 simp_all[Av,xg,gg];cases S.hs.find? (λx=>decide (x.1=n))<;>rfl
theorem ard (S:aU) (F:cR S) (e:bO) (he:dD e):Ft (aC S) (cZ e)=some (iX S e):=by
 have N:=F.xL;have J:=hash_eq S F e.1 e.2.2.1 he.H4;have J:yx (aC S) (cZ e).1 (cZ e).2.2.1=_:=J;unfold Ft iX PR;rw[show yg (aC S).2.2.1 (cZ e).1=_ from YI (S.ps.map c7) e.1 (by grind),aa7]
 rcases rT S.ps c7 (λx=>rfl) e.1 with⟨h1,h2⟩ |⟨k,x,hk,h1,h2,O,L,U⟩
 · rw[h1,h2];simp (disch:=omega) only[J];cases xg S e.1 e.2.2.1 with
   |false=>rfl
   |true=>simp (disch:=omega) only[K0];show(bif e.2.2.2.2.1 then _ else _)=_;cases e.2.2.2.2.1<;>rfl
 · simp (disch:=omega) only[h1];show((ag (S.ps.map c7) (k:Int)).bind _).bind _=_;rw[au hk];obtain⟨_,M,Z⟩:=F.ps x L;simp (disch:=omega) only[K0]
   have Y:(decide ((c7 x).2.1.1=(cZ e).2.1.1.1)&&(decide ((c7 x).2.1.2.1=(cZ e).2.1.1.2.1)&&(decide ((c7 x).2.1.2.2=(cZ e).2.1.1.2.2)&&decide ((c7 x).2.2=(cZ e).2.1.2))))=decide (x.2=e.2.1):=by
    by_cases g:x.2=e.2.1
    · rw[dY g];have:(c7 x).2=(cZ e).2.1:=by show aR x.2=aR e.2.1;rw[g]
      grind
    · rw[dN g];cases D:(decide ((c7 x).2.1.1=(cZ e).2.1.1.1)&&(decide ((c7 x).2.1.2.1=(cZ e).2.1.1.2.1)&&(decide ((c7 x).2.1.2.2=(cZ e).2.1.1.2.2)&&decide ((c7 x).2.2=(cZ e).2.1.2)))) with
      |false=>rfl
      |true=>simp only[ad0,decide_eq_true_eq] at D;exact absurd (RN M he.cD (Prod.ext (Prod.ext D.1 (Prod.ext D.2.1 D.2.2.1)) D.2.2.2)) g
   grind
theorem ap1 (S:aU) (D:cR S) (e:bO):FU (ao S) e=some (iX S e):=by
 have J:=D.xL;have F:=has_eq S D e.1 e.2.2.1;have F:Av (ao S).2.2.2.1 e.1 e.2.2.1=_:=F;unfold FU iX;rw[show wb (ao S).2.2.1 e.1=_ from abQ S.ps e.1 (by omega)]
 grind
def qF (a b:Nat):Bool:=decide ((a&&&(4294967295 - b))=0)
def jo (s:List UInt8):Nat:=(jm s).getD 0
theorem Mq (s:List UInt8) (hs:s.length<=20000):jo s<67108864:=by
 unfold jo;cases e:jm s with
 |none=>simp
 |some n=>
  obtain⟨F,_,f1,f2,f3⟩:=Ka s hs;have h1:=(S7 F f2).2;rw[f3 n e] at h1
  have h2:2 ^F.length<=2 ^26:=by
   have:2 ^F.length<=2 ^26:=Nat.pow_le_pow_right (by simp) f1
   grind
  grind
theorem aoo (a b:Nat) (D:a<4294967296) (F:b<4294967296):Di (a:Int) (b:Int)=some (qF a b):=by
 unfold Di qF;rw[u32_andNot_nat a b D F];by_cases h:a&&&(4294967295 - b)=0
 · simp
 · simp
theorem Mu (a i:Nat) (F:i<32):((a:Int).fdiv (2 ^(min ((i:Nat):Int).toNat (IntKind.bits .u32)))).tmod 2=if a.testBit i=true then 1 else 0:=by
 have D:min (i:Int).toNat (IntKind.bits .u32)=i:=by rw[ae9];exact Nat.min_eq_left (show i<=32 by omega)
 grind
theorem ajA (a b:Nat) (J:a<4294967296) (M:b<4294967296):Lr (a:Int) (b:Int)=some (qF a b):=by
 have h:=kg (f:=Ed) (List.range 32) (λi=> !(a.testBit i&& !b.testBit i)) (λk=>((a:Int),(b:Int),(k:Int),())) (Sum.inl ()) (Sum.inr ())
  (fun k hk hp=>by
   have hk:k<32:=by grind
   rw[List.getElem_range] at hp;simp only[Ed,dY (show(k:Int)<32 by omega),cond_true,ai (show(0:Int)<=(k:Int) by omega),ai (show(2:Int)≠0 by decide),Mu a k hk,Mu b k hk,aH,aw (show k+1<=4611686018427387904 by omega)]
   cases h1:a.testBit k with
   |false=>rfl
   |true=>cases h2:b.testBit k with
    |true=>grind
    |false=>rw[h1,h2] at hp;cases hp)
  (fun k hk hp=>by
   have hk:k<32:=by grind
   rw[List.getElem_range] at hp;simp only[Ed,dY (show(k:Int)<32 by omega),cond_true,ai (show(0:Int)<=(k:Int) by omega),ai (show(2:Int)≠0 by decide),Mu a k hk,Mu b k hk]
   cases h1:a.testBit k with
   |false=>grind
   |true=>cases h2:b.testBit k with
    |true=>grind
    |false=>simp only[if_true,af7,if_false,decide_true,cond_true])
  rfl
 unfold Lr;rw[show ab Ed ((a:Int),(b:Int),0,())=_ from h,aa7]
 have hu:((List.range 32).all λi=> !(a.testBit i&& !b.testBit i))=qF a b:=by
  unfold qF;by_cases D:a&&&(4294967295 - b)=0
  · rw[dY D,ao3];intro i F;have F:i<32:=List.mem_range.1 F;have:=congrArg (λn:Nat=>n.testBit i) D;simp only[Nat.testBit_and,Nat.zero_testBit] at this;rw[show 4294967295 - b=2 ^32 - (b+1) by omega,Nat.testBit_two_pow_sub_succ (by omega)] at this
    grind
  · rw[dN D];cases L:(List.range 32).all λi=> !(a.testBit i&& !b.testBit i) with
    |false=>rfl
    |true=>
     exfalso;apply D;apply Nat.eq_of_testBit_eq;intro i;rw[Nat.testBit_and,Nat.zero_testBit,show 4294967295 - b=2 ^32 - (b+1) by omega,Nat.testBit_two_pow_sub_succ (by omega)]
     grind
 rw[hu];cases qF a b<;>rfl
theorem ajv (s t:List UInt8) (hs:s.length<=20000) (D:t.length<=20000) (h1:pD s=true) (h2:pD t=true):Lm s t=some (qF (jo s) (jo t)):=by
 obtain⟨F,f0,f1,f2,f3⟩:=Ka s hs;obtain⟨G,g0,g1,g2,g3⟩:=Ka t D
 have J:fS F=(jo s):=by
  unfold pD at h1;unfold jo;cases e:jm s with
  |none=>grind
  |some n=>grind
 have L:fS G=(jo t):=by
  unfold pD at h2;unfold jo;cases e:jm t with
  |none=>grind
  |some n=>grind
 have:=Mq s hs;have:=Mq t D;unfold Lm;simp only[f0,g0,aa7,WL F f2 f1,WL G g2 g1,J,L,ajA _ _ (show jo s<4294967296 by omega) (show jo t<4294967296 by omega)]
abbrev aq:=bO×List UInt8×Int
def aM (x:aq):om:=((cZ x.1,x.2.1),x.2.2)
def Ba (S:aU) (cl:List UInt8) (e:bO) (src:List UInt8):Bool:=qF (jo e.2.2.2.1) (jo cl)&&cw (lO S e.1) src
def iq (S:aU) (cl src:List UInt8) (e:bO):List aq:=if Ba S cl e src=true then[(e,src,iX S e)] else[]
def jQ (S:aU) (cl:List UInt8) (cat:List kI):List aq:=cat.flatMap λx=>x.2.flatMap (iq S cl x.1)
theorem Fj {α β:Type} (l:List α) (e:α->List β) (n:Nat) (he: ∀x∈l,(e x).length<=n):(l.flatMap e).length<=n*l.length:=by
 induction l with
 |nil=>grind
 |cons x t D=>rw[List.flatMap_cons,ae7,af2,Nat.mul_add];have:=he x am5;have:=D (by grind);omega
theorem Sb (S:aU) (cl src:List UInt8) (e:bO):(iq S cl src e).length<=1:=by grind[iq]
theorem am2 (S:aU) (J:cR S) (cl:List UInt8) (N:cl.length<=80) (src:List UInt8) (l:List bO) (L: ∀e∈l,dD e) (Y:l.length<=60) (D:List ae0) (a b:Int) (acc:List om) (M:acc.length<=1000):
  ab zr (fT cl,D,a,b,l.map cZ,((l.map cZ).length:Int),0,(aC S).1,(aC S).2.1,(aC S).2.2.1,(aC S).2.2.2.1,(aC S).2.2.2.2,src,l.map cZ,acc,())=
   some (fT cl,D,a,b,(aC S).1,(aC S).2.1,(aC S).2.2.1,(aC S).2.2.2.1,(aC S).2.2.2.2,acc++(l.flatMap (iq S cl src)).map aM,()):=by
 have U:=Mq cl (by omega)
 have h:=tH (f:=zr) l (λe=>(iq S cl src e).map aM) (λk x=>(fT cl,D,a,b,l.map cZ,((l.map cZ).length:Int),(k:Int),(aC S).1,(aC S).2.1,(aC S).2.2.1,(aC S).2.2.2.1,(aC S).2.2.2.2,src,l.map cZ,acc++x,()))
  (fun x=>(fT cl,D,a,b,(aC S).1,(aC S).2.1,(aC S).2.2.1,(aC S).2.2.2.1,(aC S).2.2.2.2,acc++x,())) (λk hk=>by
   have hlen:=rU (l.take k) (λe=>(iq S cl src e).map aM) (λx=>by rw[ae2];exact Sb _ _ _ _)
   rw[am9] at hlen;have O:k<(l.map cZ).length:=by rw[ae2];exact hk
   have he:=L _ (ab7 hk);have hle:=Mq (l[k]).2.2.2.1 (by have:=he.short.2.2;omega)
   have hu:=aoo (jo (l[k]).2.2.2.1) (jo cl) (by omega) (by omega)
   have hu:Di (cZ l[k]).2.2.2.1 (fT cl)=_:=hu;have F:=amH S J (l[k]).1 src (by have:=he.short.1;omega)
   have F:DT ((aC S).1,(aC S).2.1,(aC S).2.2.1,(aC S).2.2.2.1,(aC S).2.2.2.2) (cZ l[k]).1 src=_:=F;have hw:=ard S J l[k] he;have hw:Ft ((aC S).1,(aC S).2.1,(aC S).2.2.1,(aC S).2.2.2.1,(aC S).2.2.2.2) (cZ l[k])=_:=hw;simp (disch:=omega) only[K0,zr,ar7,hu];show _=some (Sum.inl (fT cl,D,a,b,l.map cZ,((l.map cZ).length:Int),((k+1:Nat):Int),(aC S).1,(aC S).2.1,(aC S).2.2.1,(aC S).2.2.2.1,(aC S).2.2.2.2,src,l.map cZ,acc++(((l.take k).flatMap λe=>(iq S cl src e).map aM)++(iq S cl src l[k]).map aM),()));generalize(l.take k).flatMap (λe=>(iq S cl src e).map aM)=X at hlen⊢;unfold iq Ba;cases h1:qF (jo (l[k]).2.2.2.1) (jo cl) with
   |false=>simp only[cond_false,av1,af7,if_false,List.map_nil,ag5]
   |true=>
    simp (disch:=omega) only[K0,F];cases h2:cw (lO S (l[k]).1) src with
    |false=>simp only[cond_false,af7,if_false,List.map_nil,ag5]
    |true=>
     simp (disch:=omega) only[K0,hw];rw[ai (by simp (disch:=omega) only[ae7];omega)]
     simp (disch:=omega) only[as2];rfl) (by
   simp only[zr,ae2,ak0,decide_false,cond_false])
 simp_all[List.map_flatMap]
theorem abb (S:aU) (cl:List UInt8) (cat:List kI) (hC: ∀x∈cat,Gr x):(jQ S cl cat).length<=60*cat.length:=
 Fj cat _ 60 λx D=>an4 (rU x.2 _ (Sb S cl x.1)) (hC x D).many
theorem aqd (S:aU) (J:cR S) (cl:List UInt8) (L:cl.length<=80) (cat:List kI) (hC:qU cat):
  ab zq (fT cl,cat.map gT,((cat.map gT).length:Int),0,(aC S).1,(aC S).2.1,(aC S).2.2.1,(aC S).2.2.2.1,(aC S).2.2.2.2,[],())=
   some ((aC S).1,(aC S).2.1,(aC S).2.2.1,(aC S).2.2.2.1,(aC S).2.2.2.2,(jQ S cl cat).map aM,()):=by
 have M:=hC.many
 have h:=tH (f:=zq) cat (λx=>(x.2.flatMap (iq S cl x.1)).map aM) (λk x=>(fT cl,cat.map gT,((cat.map gT).length),k,(aC S).1,(aC S).2.1,(aC S).2.2.1,(aC S).2.2.2.1,(aC S).2.2.2.2,x,()))
  (λx=>((aC S).1,(aC S).2.1,(aC S).2.2.1,(aC S).2.2.2.1,(aC S).2.2.2.2,x,())) (λk hk=>by
   have N:k<(cat.map gT).length:=by grind
   have D:=hC.all _ (ab7 hk);have hlen:=Fj (cat.take k) (λx=>(x.2.flatMap (iq S cl x.1)).map aM) 60 (λx D=>by rw[ae2];exact an4 (rU x.2 _ (Sb S cl x.1)) (hC.all x (List.take_subset _ _ D)).many)
   rw[am9] at hlen;have F:=am2 S J cl L (cat[k]).1 (cat[k]).2 D.cV D.many (cat.map gT) ((cat.map gT).length) k ((cat.take k).flatMap λx=>(x.2.flatMap (iq S cl x.1)).map aM) (by omega)
   have F:ab zr (fT cl,cat.map gT,((cat.map gT).length),k,(gT cat[k]).2,((gT cat[k]).2.length),0,(aC S).1,(aC S).2.1,(aC S).2.2.1,(aC S).2.2.2.1,(aC S).2.2.2.2,(gT cat[k]).1,(gT cat[k]).2,((cat.take k).flatMap λx=>(x.2.flatMap (iq S cl x.1)).map aM),())=_:=F;simp (disch:=omega) only[K0,zq,ar7,F]) (by
   simp only[zq,ae2,ak0,decide_false,cond_false])
 grind[jQ,List.map_flatMap]
def iK (S:aU):om->om->Int:=fE (λx y=>cC x.1.1.1 y.1.1.1) (fE (λx y=>eJ y.1.1.2.1 x.1.1.2.1) (λx y=>xi S x.1.2 y.1.2))
theorem Zg (S:aU):et (iK S):=(Aq.on (λx:om=>x.1.1.1)).lex ((an2.flip.on (λx:om=>x.1.1.2.1)).lex ((apD S).on (λx:om=>x.1.2)))
theorem FQ {S:aU} {cl:List UInt8} {cat:List kI} {y:aq} (h:y∈jQ S cl cat): ∃x∈cat,y.1∈x.2/\y.2.1=x.1/\y.2.2=iX S y.1/\Ba S cl y.1 y.2.1=true:=by
 obtain⟨x,D,h⟩:=List.mem_flatMap.1 h;obtain⟨e,he,h⟩:=List.mem_flatMap.1 h;unfold iq at h;split at h
 · grind
 · grind
theorem YQ {α β:Type} {l:List α} {f:α->β} (h:(l.map f).Nodup) {x y:α} (D:x∈l) (F:y∈l) (e:f x=f y):x=y:=by
 induction l with
 |nil=>grind
 |cons a t J=>grind
theorem aqi {S:aU} {cl:List UInt8} {cat:List kI} (hC:qU cat) {y z:aq} (U:y∈jQ S cl cat) (Y:z∈jQ S cl cat) (h1:y.1.1=z.1.1) (h2:y.1.2.1=z.1.2.1) (N:y.2.1=z.2.1):y=z:=by
 obtain⟨x,D,F,a2,a3,_⟩:=FQ U;obtain⟨x',O,J,Z,b3,_⟩:=FQ Y;have L:x=x':=YQ hC.once D O (by grind)
 subst L;have M:y.1=z.1:=YQ (hC.all x D).once F J (Prod.ext h1 h2);exact Prod.ext M (Prod.ext N (by grind))
theorem F3 {S:aU} {cl:List UInt8} {cat:List kI} (hC:qU cat) {y:aq} (J:y∈jQ S cl cat):dD y.1:=by obtain⟨x,F,D,_⟩:=FQ J;exact(hC.all x F).cV _ D
theorem apC (S:aU) (D:cR S) (x y:aq) (F:dD x.1) (J:dD y.1):qh (aM x) (aM y) (aC S)=some (iK S (aM x) (aM y)):=by
 have L:=Es (s:=x.1.2.1) (by have:=F.short.2.1;omega)
 have M:=Es (s:=y.1.2.1) (by have:=J.short.2.1;omega)
 unfold qh iK fE;rw[DR,aa7];by_cases h1:cC (aM x).1.1.1 (aM y).1.1.1=0
 · rw[dY h1];simp (disch:=omega) only[K0];rw[show tu (aM y).1.1.2.1 (aM x).1.1.2.1=_ from Ji _ _ M L,aa7]
   by_cases h2:eJ (aM y).1.1.2.1 (aM x).1.1.2.1=0
   · rw[dY h2];simp (disch:=omega) only[K0,akS S D]
   · grind
 · grind
theorem aaI (S:aU) (Y:cR S) (cl:List UInt8) (cat:List kI) (hC:qU cat):il (λz:om=>z∈(jQ S cl cat).map aM) (λx y=>qh x y (aC S)) (iK S):=
 (Zg S).ok (λx y J L=>by
  obtain⟨a,D,rfl⟩:=ar1.1 J;obtain⟨b,F,rfl⟩:=ar1.1 L;exact apC S Y a b (F3 hC D) (F3 hC F)) (λx y J L h=>by
  obtain⟨a,D,rfl⟩:=ar1.1 J;obtain⟨b,F,rfl⟩:=ar1.1 L;obtain⟨h1,h2⟩:=oY h;obtain⟨h2,U⟩:=oY h2;have M:a.1.1=b.1.1:=qv h1;have N:aR b.1.2.1=aR a.1.2.1:=Yf h2;have O:a.2.1=b.2.1:=an5 U;rw[aqi hC D F M (RN (F3 hC D).cD (F3 hC F).cD N.symm) O])
theorem Zf (S:aU) (x y:aq):iK S (aM x) (aM y)=if cC x.1.1 y.1.1=0 then(if eJ (aR y.1.2.1) (aR x.1.2.1)=0 then xi S x.2.1 y.2.1 else eJ (aR y.1.2.1) (aR x.1.2.1)) else cC x.1.1 y.1.1:=rfl
theorem apW (S:aU) (J:cR S) (x y:aq) (D:dD x.1) (F:dD y.1) (L:x.2.1.length<=20000):E8 (ao S) x y=some (decide (iK S (aM x) (aM y)<0)):=by
 unfold E8;rw[y' _ _ (by have:=D.short.1;omega),aa7,Zf]
 by_cases h1:cC x.1.1 y.1.1=0
 · rw[dY h1,if_pos h1];simp only[cond_true];rw[y8 _ (by have:=D.short.2.1;omega),y8 _ (by have:=F.short.2.1;omega),D.cD,F.cD]
   simp only[if_true,aa7];rw[ah6 F.cD D.cD (by have:=F.short.2.1;omega) (by have:=D.short.2.1;omega),aa7]
   by_cases h2:eJ (aR y.1.2.1) (aR x.1.2.1)=0
   · rw[dY h2,if_pos h2];simp only[cond_true];rw[akU S J _ _ L];rfl
   · grind
 · grind
theorem alP (S:aU) (N:cR S) (x:aq) (Z:dD x.1) (Y:x.2.1.length<=20000) (out:List aq) (U: ∀y∈out,dD y.1) (hn:out.length<=1000) (cl:List UInt8) (cat:List kI) (a b:Int):
  ∃k,k<=out.length/\ab tG (cl,cat,out,a,b,(out.length:Int),(ao S).1,(ao S).2.1,(ao S).2.2.1,(ao S).2.2.2.1,(ao S).2.2.2.2,x.1.1,x.1.2.1,x.1.2.2.1,x.1.2.2.2.1,x.1.2.2.2.2.1,x.1.2.2.2.2.2.1,x.1.2.2.2.2.2.2.1,x.1.2.2.2.2.2.2.2,x.2.1,x.2.2,())=
   some (cl,cat,out,a,b,(k:Int),(ao S).1,(ao S).2.1,(ao S).2.2.1,(ao S).2.2.2.1,(ao S).2.2.2.2,x.1.1,x.1.2.1,x.1.2.2.1,x.1.2.2.2.1,x.1.2.2.2.2.1,x.1.2.2.2.2.2.1,x.1.2.2.2.2.2.2.1,x.1.2.2.2.2.2.2.2,x.2.1,x.2.2,())/\
   (∀j (h:j<out.length),k<=j->iK S (aM x) (aM out[j])<0)/\(∀h:0<k,∀h2:k - 1<out.length,¬iK S (aM x) (aM out[k - 1])<0):=by
 have main: ∀n k,k=n->k<=out.length->(∀j (h:j<out.length),k<=j->iK S (aM x) (aM out[j])<0)-> ∃D,D<=out.length/\ab tG (cl,cat,out,a,b,(k:Int),(ao S).1,(ao S).2.1,(ao S).2.2.1,(ao S).2.2.2.1,(ao S).2.2.2.2,x.1.1,x.1.2.1,x.1.2.2.1,x.1.2.2.2.1,x.1.2.2.2.2.1,x.1.2.2.2.2.2.1,x.1.2.2.2.2.2.2.1,x.1.2.2.2.2.2.2.2,x.2.1,x.2.2,())=
   some (cl,cat,out,a,b,(D:Int),(ao S).1,(ao S).2.1,(ao S).2.2.1,(ao S).2.2.2.1,(ao S).2.2.2.2,x.1.1,x.1.2.1,x.1.2.2.1,x.1.2.2.2.1,x.1.2.2.2.2.1,x.1.2.2.2.2.2.1,x.1.2.2.2.2.2.2.1,x.1.2.2.2.2.2.2.2,x.2.1,x.2.2,())/\
   (∀j (h:j<out.length),D<=j->iK S (aM x) (aM out[j])<0)/\(∀h:0<D,∀h2:D - 1<out.length,¬iK S (aM x) (aM out[D - 1])<0):=by
  intro n
  induction n with
  |zero=>
   intro k hk M F;subst hk;refine⟨0,ae3 _,bk ?_,F,λh=>by omega⟩
   simp only[tG,show decide ((0:Int)<((0:Nat):Int))=false by decide,cond_false]
  |succ n ih=>
   intro k hk M F;subst hk;have O:n<out.length:=by omega
   have L:((n+1:Nat):Int) - 1=((n:Nat):Int):=by omega
   have J:=apW S N x out[n] Z (U _ (ab7 O)) Y;have J:E8 ((ao S).1,(ao S).2.1,(ao S).2.2.1,(ao S).2.2.2.1,(ao S).2.2.2.2) ((x.1.1,x.1.2.1,x.1.2.2.1,x.1.2.2.2.1,x.1.2.2.2.2.1,x.1.2.2.2.2.2.1,x.1.2.2.2.2.2.2.1,x.1.2.2.2.2.2.2.2),x.2.1,x.2.2) out[n]=_:=J;by_cases c:iK S (aM x) (aM out[n])<0
   · have e:tG (cl,cat,out,a,b,((n+1:Nat):Int),(ao S).1,(ao S).2.1,(ao S).2.2.1,(ao S).2.2.2.1,(ao S).2.2.2.2,x.1.1,x.1.2.1,x.1.2.2.1,x.1.2.2.2.1,x.1.2.2.2.2.1,x.1.2.2.2.2.2.1,x.1.2.2.2.2.2.2.1,x.1.2.2.2.2.2.2.2,x.2.1,x.2.2,())=some (.inl (cl,cat,out,a,b,(n:Int),(ao S).1,(ao S).2.1,(ao S).2.2.1,(ao S).2.2.2.1,(ao S).2.2.2.2,x.1.1,x.1.2.1,x.1.2.2.1,x.1.2.2.2.1,x.1.2.2.2.2.1,x.1.2.2.2.2.2.1,x.1.2.2.2.2.2.2.1,x.1.2.2.2.2.2.2.2,x.2.1,x.2.2,())):=by
       simp (disch:=omega) only[K0,tG,L,J]
     rw[aZ e];refine ih n rfl (by omega) (λj h ah=>?_)
     by_cases d:j=n
     · subst d;exact c
     · exact F j h (by omega)
   · refine⟨n+1,M,bk ?_,F,λ_ h2=>?_⟩
     · simp (disch:=omega) only[K0,tG,L,J]
     · exact c
 exact main _ _ rfl (ab8 _) (λj h F=>by omega)
def Ma (S:aU) (l:List aq):Prop:=l.Pairwise λx y=> ¬iK S (aM y) (aM x)<0
theorem insert_sorted (S:aU) (out:List aq) (x:aq) (k:Nat) (hk:k<=out.length) (hs:Ma S out) (h1: ∀j (h:j<out.length),k<=j->iK S (aM x) (aM out[j])<0) (h2: ∀h:0<k,∀h2:k - 1<out.length,¬iK S (aM x) (aM out[k - 1])<0):
  Ma S (out.take k++[x]++out.drop k)/\(out.take k++[x]++out.drop k).Perm (out++[x]):=by
 have J:=Zg S;constructor
 · unfold Ma at*;rw[as2,List.pairwise_append];have ht:(out.take k).Pairwise λx y=> ¬iK S (aM y) (aM x)<0:=hs.sublist (List.take_sublist _ _);have U:(out.drop k).Pairwise λx y=> ¬iK S (aM y) (aM x)<0:=hs.sublist (List.drop_sublist _ _);have Z: ∀y∈out.drop k,iK S (aM x) (aM y)<0:=by intro y F;obtain⟨j,L,e⟩:=at2 F;rw[List.getElem_drop] at e;rw[<-e];exact h1 (k+j) _ (by omega)
   have ah: ∀y∈out.take k,¬iK S (aM x) (aM y)<0:=by
    intro y F;obtain⟨j,L,e⟩:=at2 F;rw[am9] at L;rw[List.getElem_take] at e;have hl:=h2 (by omega) (by omega)
    rw[<-e];by_cases d:j=k - 1
    · grind
    · have:=(aw8.1 hs) j (k - 1) (by omega) (by omega) (by omega)
      have n1:=J.neg (aM out[j]) (aM out[k - 1]);have n2:=J.neg (aM out[k - 1]) (aM x);have n3:=J.neg (aM out[j]) (aM x);have:=J.tr (aM out[j]) (aM out[k - 1]) (aM x) (by omega) (by omega)
      omega
   refine⟨ht,?_,?_⟩
   · show(x::out.drop k).Pairwise _;rw[List.pairwise_cons];refine⟨λy F=>?_,U⟩;have:=Z y F;have:=J.neg (aM x) (aM y);omega
   · intro a O b D;rcases ai3.1 (show b∈x::out.drop k from D) with D |D
     · rw[D];exact ah a O
     · obtain⟨i,Y,M⟩:=at2 O;obtain⟨j,L,N⟩:=at2 D;rw[am9] at Y;rw[at6] at L;rw[List.getElem_take] at M;rw[List.getElem_drop] at N;rw[<-M,<-N];exact(aw8.1 hs) i (k+j) (by omega) (by omega) (by omega)
 · have h:=List.perm_append_comm (l₁:=[x]) (l₂:=out.drop k);have h:=List.Perm.append_left (out.take k) h;rw[<-as2,<-as2,as0] at h;exact h
structure xp (S:aU) (raw out:List aq):Prop where
 perm:out.Perm raw
 sorted:Ma S out
theorem xp.len {S:aU} {raw out:List aq} (h:xp S raw out):out.length=raw.length:=h.perm.length_eq
theorem aqe (S:aU) (M:cR S) (cl:List UInt8) (az:cl.length<=80) (ar:pD cl=true) (cat:List kI) (i:Nat) (hi:i<cat.length) (U:Gr cat[i]): ∀(n j:Nat) (raw out:List aq),(cat[i]).2.length - j=n->j<=(cat[i]).2.length->(∀y∈raw,dD y.1)->raw.length<=300+j->xp S raw out->
  ∃F,xp S (raw++((cat[i]).2.drop j).flatMap (iq S cl (cat[i]).1)) F/\
   ab rO (cl,cat,out,(i:Int),(j:Int),(ao S).1,(ao S).2.1,(ao S).2.2.1,(ao S).2.2.2.1,(ao S).2.2.2.2,())=some (cl,cat,F,(i:Int),(ao S).1,(ao S).2.1,(ao S).2.2.1,(ao S).2.2.2.1,(ao S).2.2.2.2,()):=by
 have J: ∀{R:Type} (f:kI->Option R),(ag cat (i:Int)).bind f=f cat[i]:=λf=>au hi f;have an:(cat[i]).1.length<=20000:=by have:=U.src;unfold dL kn at this;simp only[ad0,decide_eq_true_eq] at this;omega
 generalize cat[i]=X at U J an;have hm:=U.many;intro n
 induction n with
 |zero=>
  intro j raw out hn hj N hl hR;have e:j=X.2.length:=by omega
  subst e;refine⟨out,by rw[au0,List.flatMap_nil,ag5];exact hR,bk ?_⟩
  simp only[rO,J,ak0,decide_false,cond_false]
 |succ n ih=>
  intro j raw out hn hj N hl hR;have L:j<X.2.length:=by omega
  have he:=U.cV _ (ab7 L);have Z:j+1<=4611686018427387904:=by omega
  have hu:=ajv (X.2[j]).2.2.2.1 cl (by have:=he.short.2.2;omega) (by omega) he.HV ar
  have O:=aj2 S M (X.2[j]).1 (by have:=he.short.1;omega)
  have O:Eb ((ao S).1,(ao S).2.1,(ao S).2.2.1,(ao S).2.2.2.1,(ao S).2.2.2.2) (X.2[j]).1=_:=O;have ah:=qp (lO S (X.2[j]).1) X.1 (by have:=XO S M (X.2[j]).1;omega)
  have hw:=ap1 S M X.2[j];have hw:FU ((ao S).1,(ao S).2.1,(ao S).2.2.1,(ao S).2.2.2.1,(ao S).2.2.2.2) X.2[j]=_:=hw;rw[ak7 L,List.flatMap_cons];by_cases D:Ba S cl X.2[j] X.1=true
  · have Y:iq S cl X.1 X.2[j]=[(X.2[j],X.1,iX S X.2[j])]:=by unfold iq;rw[if_pos D]
    unfold Ba at D;rw[ad0] at D;have av: ∀y∈out,dD y.1:=λy hy=>N y (hR.perm.subset hy);have aE:=hR.len;obtain⟨k,k1,k2,k3,k4⟩:=alP S M (X.2[j],X.1,iX S X.2[j]) he an out av (by omega) cl cat (i:Int) (j:Int)
    obtain⟨s1,s2⟩:=insert_sorted S out (X.2[j],X.1,iX S X.2[j]) k k1 hR.sorted k3 k4;obtain⟨F,q1,q2⟩:=ih (j+1) (raw++[(X.2[j],X.1,iX S X.2[j])]) (out.take k++[(X.2[j],X.1,iX S X.2[j])]++out.drop k) (by omega) (by omega) (kZ N he) (by rw[ae7,List.length_singleton];omega) ⟨s2.trans (hR.perm.append_right _),s1⟩
    refine⟨F,by rw[Y,<-as2];exact q1,?_⟩
    have e:rO (cl,cat,out,(i:Int),(j:Int),(ao S).1,(ao S).2.1,(ao S).2.2.1,(ao S).2.2.2.1,(ao S).2.2.2.2,())=some (.inl (cl,cat,out.take k++[(X.2[j],X.1,iX S X.2[j])]++out.drop k,(i:Int),((j+1:Nat):Int),(ao S).1,(ao S).2.1,(ao S).2.2.1,(ao S).2.2.2.1,(ao S).2.2.2.2,())):=by
     simp only[rO,J,dY (show(j:Int)<(X.2.length:Int) by omega),cond_true,au L,hu,D.1,aa7,ae8,cond_false,O,ah,D.2,hw]
     have k2:ab tG (cl,cat,out,(i:Int),(j:Int),(out.length:Int),(ao S).1,(ao S).2.1,(ao S).2.2.1,(ao S).2.2.2.1,(ao S).2.2.2.2,(X.2[j]).1,(X.2[j]).2.1,(X.2[j]).2.2.1,(X.2[j]).2.2.2.1,(X.2[j]).2.2.2.2.1,(X.2[j]).2.2.2.2.2.1,(X.2[j]).2.2.2.2.2.2.1,(X.2[j]).2.2.2.2.2.2.2,X.1,iX S X.2[j],())=_:=k2;simp only[k2,aa7,ae9,show(0:Int).toNat=0 by rfl,au3,as1]
     rw[ai (by omega),ai (by rw[am9];omega),ai (by rw[am9];simp only[af2,as5];omega),ai (by omega),ai (by rw[ae7,am9,at6];simp only[af2,as5];omega)]
     simp only[aH,aw Z]
    rw[aZ e];exact q2
  · have Y:iq S cl X.1 X.2[j]=[]:=by unfold iq;rw[if_neg D]
    obtain⟨F,q1,q2⟩:=ih (j+1) raw out (by omega) (by omega) N (by omega) hR
    refine⟨F,by rw[Y,List.nil_append];exact q1,?_⟩
    have e:rO (cl,cat,out,(i:Int),(j:Int),(ao S).1,(ao S).2.1,(ao S).2.2.1,(ao S).2.2.2.1,(ao S).2.2.2.2,())=some (.inl (cl,cat,out,(i:Int),((j+1:Nat):Int),(ao S).1,(ao S).2.1,(ao S).2.2.1,(ao S).2.2.2.1,(ao S).2.2.2.2,())):=by
     unfold Ba at D;cases h1:qF (jo (X.2[j]).2.2.2.1) (jo cl) with
     |false=>simp only[rO,J,dY (show(j:Int)<(X.2.length:Int) by omega),cond_true,au L,hu,h1,aa7,am7,aH,aw Z]
     |true=>
      rw[h1,at4] at D
      have D:cw (lO S (X.2[j]).1) X.1=false:=by cases h:cw (lO S (X.2[j]).1) X.1 with
       |true=>exact absurd h D
       |false=>rfl
      simp only[rO,J,dY (show(j:Int)<(X.2.length:Int) by omega),cond_true,au L,hu,h1,aa7,ae8,cond_false,O,ah,D,am7,aH,aw Z]
    rw[aZ e];exact q2
theorem aqf (S:aU) (Y:cR S) (cl:List UInt8) (Z:cl.length<=80) (ah:pD cl=true) (cat:List kI) (hC:qU cat): ∀(n i:Nat) (out:List aq),cat.length - i=n->i<=cat.length->xp S (jQ S cl (cat.take i)) out->
  ∃F,xp S (jQ S cl cat) F/\ab zQ (cl,cat,out,(i:Int),(ao S).1,(ao S).2.1,(ao S).2.2.1,(ao S).2.2.2.1,(ao S).2.2.2.2,())=some (F,(ao S).1,(ao S).2.1,(ao S).2.2.1,(ao S).2.2.2.1,(ao S).2.2.2.2,()):=by
 have h6:=hC.many;intro n
 induction n with
 |zero=>
  intro i out hn hi hR;have e:i=cat.length:=by omega
  subst e;refine⟨out,by rw[as1] at hR;exact hR,bk ?_⟩
  simp[zQ]
 |succ n ih=>
  intro i out hn hi hR;have J:i<cat.length:=by omega
  have D:=hC.all _ (ab7 J);have M: ∀x∈cat.take i,Gr x:=λx D=>hC.all x (List.take_subset _ _ D);have hl:=abb S cl (cat.take i) M;rw[am9] at hl;obtain⟨Bg,N,L⟩:=aqe S Y cl Z ah cat i J D _ 0 (jQ S cl (cat.take i)) out rfl (ae3 _) (λy hy=>by obtain⟨x,D,O,_⟩:=FQ hy;exact(M x D).cV _ O) (by omega) hR
  have U:jQ S cl (cat.take (i+1))=jQ S cl (cat.take i)++(cat[i]).2.flatMap (iq S cl (cat[i]).1):=by unfold jQ;rw[at7 J,List.flatMap_append];simp
  rw[au3,<-U] at N;obtain⟨F,q3,q4⟩:=ih (i+1) Bg (by omega) (by omega) N
  refine⟨F,q3,?_⟩;have L:ab rO (cl,cat,out,i,0,(ao S).1,(ao S).2.1,(ao S).2.2.1,(ao S).2.2.2.1,(ao S).2.2.2.2,())=_:=L;have e:zQ (cl,cat,out,i,(ao S).1,(ao S).2.1,(ao S).2.2.1,(ao S).2.2.2.1,(ao S).2.2.2.2,())=some (.inl (cl,cat,Bg,(i+1),(ao S).1,(ao S).2.1,(ao S).2.2.1,(ao S).2.2.2.1,(ao S).2.2.2.2,())):=by simp (disch:=omega) only[K0,zQ,L]
  rw[aZ e];exact q4
theorem ajk {α:Type} (l:List α) (p q:α->Bool) (h: ∀x∈l,p x=q x):l.any p=l.any q:=by grind
def lM (S:aU) (L:List aq) (x:aq):Bool:=decide (x.2.2=0)&&(match qJ S x.1.1 with|some c=>L.any (λy=>decide (y.1.1=x.1.1)&&decide (y.2.2=0)&&decide (bG c.2.2 (λs=>decide (s=y.2.1))<bG c.2.2 (λs=>decide (s=x.2.1)))) |none=>false)
def fD (S:aU) (L:List aq) (x:aq):aq:=if lM S L x=true then(x.1,x.2.1,4) else x
def km (S:aU) (L:List aq):List aq:=L.map (fD S L)
theorem XE {S:aU} {s:List UInt8} {c:ug} (h:qJ S s=some c):c∈S.cs/\c.2.1=hW/\0<=ko S s/\S.cs[(ko S s).toNat]? =some c:=by grind[qJ]
theorem ajo {S:aU} {s:List UInt8} {c:ug} (h:qJ S s=some c) (hs:gm s=true):lO S s=c.2.2:=by obtain⟨h1,h2,D,F⟩:=XE h;unfold lO;rw[if_pos hs,if_pos D,F];show tc S c=_;unfold tc;rw[if_pos h2]
def cM (S:aU) (L:List aq) (i:Nat):List aq:=(L.take i).map (fD S L)++L.drop i
theorem R8 (S:aU) (L:List aq) (i:Nat):(cM S L i).length=L.length:=by grind[cM]
theorem Mj (S:aU) (L:List aq) (i:Nat) (h:i<L.length) (h2:i<(cM S L i).length):(cM S L i)[i]=L[i]:=by grind[cM]
theorem R7 (S:aU) (L:List aq) (i:Nat) (h:i<L.length):(cM S L i).set i (fD S L L[i])=cM S L (i+1):=by
 unfold cM;rw[List.set_append_right _ _ (by grind),ae2,am9,Nat.min_eq_left (Nat.le_of_lt h),Nat.sub_self,ak7 h,List.set_cons_zero,at7 h,ag9]
 simp
theorem Ro (S:aU) (L:List aq) (i:Nat) (h:i<L.length) (hk:fD S L L[i]=L[i]):cM S L (i+1)=cM S L i:=by
 rw[<-R7 S L i h,hk]
 conv=>lhs;rw[<-Mj S L i h (by rw[R8];exact h)]
 simp
theorem K9 (S:aU) (L:List aq) (y:aq):(fD S L y).1=y.1/\(fD S L y).2.1=y.2.1/\((fD S L y).2.2=4/\y.2.2=0\/(fD S L y).2.2=y.2.2):=by grind[fD,lM]
theorem aoP (S:aU) (L:List aq) (i:Nat) (M: ∀y∈L,¬y.2.2=4) (p:List UInt8->List UInt8->Bool):
  (cM S L i).any (λy=>p y.1.1 y.2.1&&(decide (y.2.2=0)||decide (y.2.2=4)))=L.any (λy=>p y.1.1 y.2.1&&decide (y.2.2=0)):=by
 have F: ∀y∈L,(λy:aq=>p y.1.1 y.2.1&&(decide (y.2.2=0)||decide (y.2.2=4))) (fD S L y)=(λy:aq=>p y.1.1 y.2.1&&decide (y.2.2=0)) y:=λy N=>by
  obtain⟨h1,h2,D⟩:=K9 S L y;show(p (fD S L y).1.1 (fD S L y).2.1&&(decide ((fD S L y).2.2=0)||decide ((fD S L y).2.2=4)))=(p y.1.1 y.2.1&&decide (y.2.2=0));rw[h1];rcases D with⟨D,J⟩ |D
  · grind
  · grind
 unfold cM;rw[List.any_append,List.any_map]
 conv=>rhs;rw[<-as0 i L]
 grind
theorem ak6 (S:aU) (e:bO):iX S e=0\/iX S e=1\/iX S e=2\/iX S e=3:=by grind[iX]
structure AV (S:aU) (L:List aq):Prop where
 cV: ∀y∈L,dD y.1
 asy: ∀y∈L,y.2.2=iX S y.1
 many:L.length<=360
theorem AV.no4 {S:aU} {L:List aq} (h:AV S L): ∀y∈L,¬y.2.2=4:=λy D g=>by rw[h.asy y D] at g;rcases ak6 S y.1 with q |q |q |q<;>rw[q] at g<;>exact absurd g (by simp)
def wQ (n:List UInt8) (order:List (List UInt8)) (at_:Int) (y:aq):Bool:=(decide (y.1.1=n)&&decide (bG order (λs=>decide (s=y.2.1))<at_))&&(decide (y.2.2=0)||decide (y.2.2=4))
theorem aiB (S:aU) (M:List aq) (O:M.length<=360) (i:Nat) (U:i<M.length) (order:List (List UInt8)) (Y:order.length<=100) (at_:Int):
  Iu (M.map aM) (M.map aM) (i:Int) order at_=some (M.any (wQ (M[i]).1.1 order at_)):=by
 have N:i<(M.map aM).length:=by grind
 have F: ∀k (h:k<M.length),JT (aM M[k]) (M.map aM) i order at_=some (wQ (M[i]).1.1 order at_ M[k]):=by
  intro k h;have J:=SM order (M[k]).2.1 (by omega)
  have J:nJ order (aM M[k]).1.2=_:=J;unfold JT wQ;rw[au N,ar7];by_cases c1:(M[k]).1.1=(M[i]).1.1
  · rw[dY (show(aM M[k]).1.1.1=(aM M[i]).1.1.1 from c1)]
    simp[cond_true];by_cases c2:(M[k]).2.2=0
    · rw[dY (show(aM M[k]).2=0 from c2)]
      grind
    · rw[dN (show¬(aM M[k]).2=0 from c2)]
      simp (disch:=omega) only[K0];by_cases D:(M[k]).2.2=4
      · rw[dY (show(aM M[k]).2=4 from D)]
        grind
      · rw[dN (show¬(aM M[k]).2=4 from D)]
        grind
  · rw[dN (show¬(aM M[k]).1.1.1=(aM M[i]).1.1.1 from c1)]
    grind
 have h:=iT (f:=yb) M (wQ (M[i]).1.1 order at_) (λk=>(M.map aM,M.map aM,i,order,at_,M.length,k,())) (λk=>Sum.inr (k,())) (Sum.inl ())
  (λk h hp=>by
   have L:k<(M.map aM).length:=by grind
   simp (disch:=omega) only[K0,yb,ar7,F k h,hp])
  (λk h hp=>by
   have L:k<(M.map aM).length:=by grind
   simp (disch:=omega) only[K0,yb,ar7,F k h,hp])
  (by simp[yb])
 unfold Iu Ph;have h':ab yb (M.map aM,M.map aM,i,order,at_,((M.map aM).length),0,())=some (match M.findIdx? (wQ (M[i]).1.1 order at_) with|some k=>Sum.inr (k,()) |none=>Sum.inl ()):=by rw[ae2];omega
 rw[h',<-List.findIdx?_isSome];cases M.findIdx? (wQ (M[i]).1.1 order at_) with
 |none=>rfl
 |some k=>simp
theorem apa (S:aU) (hS:cR S) (L:List aq) (hL:AV S L):Er (aC S) (L.map aM)=some ((km S L).map aM):=by
 have hm:=hL.many
 have main: ∀n i,L.length - i=n->i<=L.length->ab oS ((L.length:Int),(i:Int),(aC S).1,(aC S).2.1,(aC S).2.2.1,(aC S).2.2.2.1,(aC S).2.2.2.2,(cM S L i).map aM,())=some ((km S L).map aM,()):=by
  intro n
  induction n with
  |zero=>
   intro i hn hi;have e:i=L.length:=by omega
   subst e;refine bk ?_;have e2:cM S L L.length=km S L:=by unfold cM km;rw[as1,au0,ag5]
   simp only[oS,ak0,decide_false,cond_false,e2]
  |succ n ih=>
   intro i hn hi;have J:i<L.length:=by omega
   have av:=R8 S L i;have ar:i<(cM S L i).length:=by omega
   have Y:i<((cM S L i).map aM).length:=by grind
   have N:((cM S L i).map aM)[i]=aM L[i]:=by rw[ar7,Mj S L i J]
   have hc:(0:Int)<=(i:Int)/\(i:Int)<(((cM S L i).map aM).length:Int):=by omega
   have U:i+1<=4611686018427387904:=by omega
   have he:=hL.cV _ (ab7 J);have ah:(L[i]).1.1.length<=20000:=by have:=he.short.1;omega
   have same:fD S L L[i]=L[i]->oS ((L.length:Int),(i:Int),(aC S).1,(aC S).2.1,(aC S).2.2.1,(aC S).2.2.2.1,(aC S).2.2.2.2,(cM S L i).map aM,())=some (.inl ((L.length:Int),((i+1:Nat):Int),(aC S).1,(aC S).2.1,(aC S).2.2.1,(aC S).2.2.2.1,(aC S).2.2.2.2,(cM S L i).map aM,()))->ab oS ((L.length:Int),(i:Int),(aC S).1,(aC S).2.1,(aC S).2.2.1,(aC S).2.2.2.1,(aC S).2.2.2.2,(cM S L i).map aM,())=some ((km S L).map aM,()):=by intro h1 h2;rw[aZ h2,<-Ro S L i J h1];exact ih (i+1) (by omega) (by omega)
   by_cases c0:(L[i]).2.2=0
   · have hf:=apr S hS (L[i]).1.1 ah;have hf:D7 ((aC S).1,(aC S).2.1,(aC S).2.2.1,(aC S).2.2.2.1,(aC S).2.2.2.2) (aM L[i]).1.1.1=_:=hf;cases F:qJ S (L[i]).1.1 with
     |none=>
      rw[F] at hf;refine same ?_ ?_
      · unfold fD lM;rw[F,av7];rfl
      · simp only[oS,dY (show(i:Int)<(L.length:Int) by omega),cond_true,ai hc,iN Y,N,dY (show(aM L[i]).2=0 from c0),ae8,cond_false,hf,aa7,Option.isSome_none,am7,aH,aw U]
     |some c=>
      rw[F] at hf;have M:=XN S hS (L[i]).1.1 ah;rw[ajo F he.name] at M;have M:yU ((aC S).1,(aC S).2.1,(aC S).2.2.1,(aC S).2.2.2.1,(aC S).2.2.2.2) (aM L[i]).1.1.1=_:=M;have ho:c.2.2.length<=100:=by have:=(hS.cs c (XE F).1).2.2.2.1;omega
      have Z:=SM c.2.2 (L[i]).2.1 (by omega)
      have Z:nJ c.2.2 (aM L[i]).1.2=_:=Z;have D:=aiB S (cM S L i) (by omega) i ar c.2.2 ho (bG c.2.2 λs=>decide (s=(L[i]).2.1))
      rw[Mj S L i J] at D;have an:(cM S L i).any (wQ (L[i]).1.1 c.2.2 (bG c.2.2 λs=>decide (s=(L[i]).2.1)))=lM S L L[i]:=by have:=aoP S L i hL.no4 (λn s=>decide (n=(L[i]).1.1)&&decide (bG c.2.2 (λz=>decide (z=s))<bG c.2.2 λs=>decide (s=(L[i]).2.1)));unfold lM;rw[F,dY c0,at4];refine Eq.trans this (ajk _ _ _ λy hy=>?_);show(decide (y.1.1=(L[i]).1.1)&&decide (bG c.2.2 (λz=>decide (z=y.2.1))<bG c.2.2 λs=>decide (s=(L[i]).2.1))&&decide (y.2.2=0))=_;rw[Bool.and_assoc,Bool.and_assoc];congr 1;exact Bool.and_comm _ _
      rw[an] at D;cases O:lM S L L[i] with
      |false=>
       rw[O] at D;refine same ?_ ?_
       · unfold fD;rw[O];rfl
       · simp only[oS,dY (show(i:Int)<(L.length:Int) by omega),cond_true,ai hc,iN Y,N,dY (show(aM L[i]).2=0 from c0),ae8,cond_false,hf,aa7,Option.isSome_some,M,Z,D,aH,aw U]
      |true=>
       rw[O] at D;have hl:fD S L L[i]=((L[i]).1,(L[i]).2.1,4):=by unfold fD;rw[O,if_pos rfl]
       have e:oS ((L.length:Int),(i:Int),(aC S).1,(aC S).2.1,(aC S).2.2.1,(aC S).2.2.2.1,(aC S).2.2.2.2,(cM S L i).map aM,())=some (.inl ((L.length:Int),((i+1:Nat):Int),(aC S).1,(aC S).2.1,(aC S).2.2.1,(aC S).2.2.2.1,(aC S).2.2.2.2,(cM S L (i+1)).map aM,())):=by
        rw[<-R7 S L i J,hl];simp only[oS,dY (show(i:Int)<(L.length:Int) by omega),cond_true,ai hc,iN Y,N,dY (show(aM L[i]).2=0 from c0),ae8,cond_false,hf,aa7,Option.isSome_some,M,Z,D,aH,aw U]
        simp only[ae9,List.map_set];rfl
       rw[aZ e];exact ih (i+1) (by omega) (by omega)
   · refine same ?_ ?_
     · unfold fD lM;rw[dN c0,av1];rfl
     · simp only[oS,dY (show(i:Int)<(L.length:Int) by omega),cond_true,ai hc,iN Y,N,dN (show¬(aM L[i]).2=0 from c0),am7,aH,aw U]
 unfold Er;have:=main _ 0 rfl (ae3 _);have this:ab oS ((L.length:Int),0,(aC S).1,(aC S).2.1,(aC S).2.2.1,(aC S).2.2.2.1,(aC S).2.2.2.2,L.map aM,())=_:=this;rw[ae2,this];rfl
theorem ZQ (l:List (List UInt8)) (v:List UInt8) (D:l.length<=1000000):E6 l v=some (bG l λx=>decide (x=v)):=by
 have h:=iT (f:=Ea) l (λx=>decide (x=v)) (λk=>(l,v,k,())) (λk=>Sum.inr (k,())) (Sum.inl ()) (λk h hp=>by
  have hp:=of_decide_eq_false hp;simp (disch:=omega) only[K0,Ea]) (λk h hp=>by
  have hp:=of_decide_eq_true hp;simp (disch:=omega) only[K0,Ea]) (by
  simp[Ea])
 grind[E6,bG]
def Nv (L:List aq) (x:aq) (order:List (List UInt8)) (y:aq):Bool:=decide (y.1.1=x.1.1)&&decide (y.2.2=0)&&decide (bG order (λs=>decide (s=y.2.1))<bG order (λs=>decide (s=x.2.1)))
theorem ajP (S:aU) (L:List aq) (Z:L.length<=360) (i:Nat) (D:i<L.length) (order:List (List UInt8)) (ho:order.length<=100): ∀(n m:Nat) (b:Bool),L.length - m=n->m<=L.length->
  ab zi (L,(i:Int),order,(m:Int),(ao S).1,(ao S).2.1,(ao S).2.2.1,(ao S).2.2.2.1,(ao S).2.2.2.2,(if b=true then(cM S L i).set i ((L[i]).1,(L[i]).2.1,4) else cM S L i),())=
   some (L,(i:Int),(ao S).1,(ao S).2.1,(ao S).2.2.1,(ao S).2.2.2.1,(ao S).2.2.2.2,(if(b||(L.drop m).any (Nv L L[i] order))=true then(cM S L i).set i ((L[i]).1,(L[i]).2.1,4) else cM S L i),()):=by
 have ah:=R8 S L i;intro n
 induction n with
 |zero=>
  intro m b N hm;have e:m=L.length:=by omega
  subst e;refine bk ?_;simp[zi,decide_false]
 |succ n O=>
  intro m b N hm;have J:m<L.length:=by omega
  have U:=ZQ order (L[m]).2.1 (by omega)
  have Y:=ZQ order (L[i]).2.1 (by omega)
  have e:zi (L,i,order,m,(ao S).1,(ao S).2.1,(ao S).2.2.1,(ao S).2.2.2.1,(ao S).2.2.2.2,(if b=true then(cM S L i).set i ((L[i]).1,(L[i]).2.1,4) else cM S L i),())=
    some (.inl (L,i,order,((m+1:Nat):Int),(ao S).1,(ao S).2.1,(ao S).2.2.1,(ao S).2.2.2.1,(ao S).2.2.2.2,(if(b||Nv L L[i] order L[m])=true then(cM S L i).set i ((L[i]).1,(L[i]).2.1,4) else cM S L i),())):=by
   simp only[zi,cond_true,au J,au D];unfold Nv;by_cases c1:(L[m]).1.1=(L[i]).1.1
   · simp only[dY c1,cond_true];by_cases c2:(L[m]).2.2=0
     · simp only[dY c2,at4,U,Y,aa7];by_cases M:bG order (λs=>decide (s=(L[m]).2.1))<bG order (λs=>decide (s=(L[i]).2.1))
       · simp only[dY M,Bool.or_true,if_true];cases b with
         |true=>
          have F:i<((cM S L i).set i ((L[i]).1,(L[i]).2.1,4)).length:=by rw[av0];omega
          simp[if_true];simp (disch:=omega) only[K0];simp (disch:=omega) only[List.getElem_set_self]
         |false=>
          have F:i<(cM S L i).length:=by omega
          simp only[af7,if_false];rw[iN F,Mj S L i D];simp (disch:=omega) only[K0]
       · simp (disch:=omega) only[K0]
     · simp (disch:=omega) only[K0]
   · simp (disch:=omega) only[K0]
  rw[aZ e,O (m+1) _ (by omega) (by omega),ak7 J,List.any_cons,Bool.or_assoc]
theorem anD (S:aU) (U:cR S) (L:List aq) (O:AV S L):E7 (ao S) L=some (km S L):=by
 have hm:=O.many
 have main: ∀n i,L.length - i=n->i<=L.length->ab oV (L,i,(ao S).1,(ao S).2.1,(ao S).2.2.1,(ao S).2.2.2.1,(ao S).2.2.2.2,cM S L i,())=some (km S L,()):=by
  intro n
  induction n with
  |zero=>
   intro i hn hi;have e:i=L.length:=by omega
   subst e;refine bk ?_;have e2:cM S L L.length=km S L:=by unfold cM km;rw[as1,au0,ag5]
   simp[oV,ak0,decide_false,e2]
  |succ n ih=>
   intro i hn hi;have F:i<L.length:=by omega
   have ah:i+1<=4611686018427387904:=by omega
   have he:=O.cV _ (ab7 F);have hc:=Zi S U (L[i]).1.1 (by have:=he.short.1;omega)
   have hc:=hc;have same:fD S L L[i]=L[i]->oV (L,i,(ao S).1,(ao S).2.1,(ao S).2.2.1,(ao S).2.2.2.1,(ao S).2.2.2.2,cM S L i,())=some (.inl (L,((i+1):Int),(ao S).1,(ao S).2.1,(ao S).2.2.1,(ao S).2.2.2.1,(ao S).2.2.2.2,cM S L i,()))->ab oV (L,i,(ao S).1,(ao S).2.1,(ao S).2.2.1,(ao S).2.2.2.1,(ao S).2.2.2.2,cM S L i,())=some (km S L,()):=by intro h1 h2;rw[aZ h2,<-Ro S L i F h1];exact ih (i+1) (by omega) (by omega)
   by_cases c0:(L[i]).2.2=0
   · rcases KM (L[i]).1.1 (lT S) with h |⟨j,M,h,_⟩
     · have h:ko S (L[i]).1.1= -1:=h;refine same ?_ ?_
       · unfold fD lM qJ;rw[h,if_neg (show¬0<= -1 by decide),av7];rfl
       · simp (disch:=omega) only[K0,oV,hc,show decide ((-1:Int)<0)=true by decide]
     · have h:ko S (L[i]).1.1=(j:Int):=h;have N:j<S.cs.length:=by unfold lT at M;rw[ae2] at M;exact M
       have J:qJ S (L[i]).1.1=if(S.cs[j]).2.1=hW then some S.cs[j] else none:=by
        unfold qJ;rw[h,if_pos (show(0:Int)<=(j:Int) by omega),ae9,ae6 N]
        by_cases g:(S.cs[j]).2.1=hW
        · simp [g]
        · simp [g]
       have Z: ∀{R:Type} (f:ug->Option R),(ag (ao S).2.1 (j:Int)).bind f=f S.cs[j]:=λf=>au (l:=S.cs) N f;by_cases g:(S.cs[j]).2.1=hW
       · rw[if_pos g] at J;have ho:(S.cs[j]).2.2.length<=100:=by have:=(U.cs _ (ab7 N)).2.2.2.1;omega
         have D:=ajP S L hm i F (S.cs[j]).2.2 ho _ 0 false rfl (ae3 _);rw[au3,Bool.false_or] at D;have hb:L.any (Nv L L[i] (S.cs[j]).2.2)=lM S L L[i]:=by unfold lM;rw[J,dY c0,at4];rfl
         rw[hb] at D
         have hl:(if lM S L L[i]=true then(cM S L i).set i ((L[i]).1,(L[i]).2.1,4) else cM S L i)=cM S L (i+1):=by
          cases Y:lM S L L[i] with
          |true=>rw[if_pos rfl,<-R7 S L i F];unfold fD;rw[Y,if_pos rfl]
          |false=>rw[if_neg (by simp),Ro S L i F (by unfold fD;rw[Y];rfl)]
         rw[hl] at D;have D:ab zi (L,i,(S.cs[j]).2.2,0,(ao S).1,(ao S).2.1,(ao S).2.2.1,(ao S).2.2.2.1,(ao S).2.2.2.2,cM S L i,())=_:=D;have e:oV (L,i,(ao S).1,(ao S).2.1,(ao S).2.2.1,(ao S).2.2.2.1,(ao S).2.2.2.2,cM S L i,())=some (.inl (L,((i+1):Int),(ao S).1,(ao S).2.1,(ao S).2.2.1,(ao S).2.2.2.1,(ao S).2.2.2.2,cM S L (i+1),())):=by simp (disch:=omega) only[K0,oV,hc,h,Z,D]
         rw[aZ e];exact ih (i+1) (by omega) (by omega)
       · rw[if_neg g] at J;refine same ?_ ?_
         · unfold fD lM;rw[J,av7];rfl
         · simp (disch:=omega) only[K0,oV,hc,h,Z]
   · refine same ?_ ?_
     · unfold fD lM;rw[dN c0,av1];rfl
     · simp (disch:=omega) only[K0,oV,hc]
 unfold E7;rw[ai (by omega)]
 have:=main _ 0 rfl (ae3 _);have this:ab oV (L,0,(ao S).1,(ao S).2.1,(ao S).2.2.1,(ao S).2.2.2.1,(ao S).2.2.2.2,L,())=_:=this;rw[this];rfl
theorem aox (S:aU) (D:cR S) (cl:List UInt8) (N:cl.length<=80) (Y:pD cl=true) (cat:List kI) (hC:qU cat):
  ∃L,xp S (jQ S cl cat) L/\AV S L/\LJ (aC S) (fT cl) (cat.map gT)=some ((km S L).map aM)/\Md (ao S) cl cat=some (km S L):=by
 have h6:=hC.many;have ah:=abb S cl cat hC.all;obtain⟨L,hR,O⟩:=aqf S D cl N Y cat hC _ 0 [] rfl (ae3 _) ⟨.refl _,List.Pairwise.nil⟩;have F:AV S L:=⟨λy J=>F3 hC (hR.perm.subset J),λy J=>(FQ (hR.perm.subset J)).elim λx h=>h.2.2.2.1,by rw[hR.len];omega⟩
 obtain⟨o,o1,M,o3⟩:=ah0 (aC S) (aaI S D cl cat hC) ((jQ S cl cat).map aM) (λx h=>h) (by grind)
 have U:(L.map aM).Pairwise λx y=> ¬iK S y x<0:=by rw[List.pairwise_map];exact hR.sorted
 have Z:=P7 (aaI S D cl cat hC) (λx hx=>M.subset hx) (M.trans (hR.perm.map aM).symm) o3 U;refine⟨L,hR,F,?_,?_⟩
 · unfold LJ;rw[show ab zq (fT cl,cat.map gT,((cat.map gT).length),0,(aC S).1,(aC S).2.1,(aC S).2.2.1,(aC S).2.2.2.1,(aC S).2.2.2.2,[],())=_ from aqd S D cl N cat hC,aa7]
   simp only[];rw[show CI ((aC S).1,(aC S).2.1,(aC S).2.2.1,(aC S).2.2.2.1,(aC S).2.2.2.2) ((jQ S cl cat).map aM)=_ from o1,aa7,ai (by rw[M.length_eq]),Z]
   rw[show Er ((aC S).1,(aC S).2.1,(aC S).2.2.1,(aC S).2.2.2.1,(aC S).2.2.2.2) (L.map aM)=_ from apa S D L F,aa7,ai (by unfold km;rw[ae2,ae2,ae2])]
 · unfold Md;rw[show ab zQ (cl,cat,[],0,(ao S).1,(ao S).2.1,(ao S).2.2.1,(ao S).2.2.2.1,(ao S).2.2.2.2,())=_ from O,aa7]
   simp only[];rw[show E7 ((ao S).1,(ao S).2.1,(ao S).2.2.1,(ao S).2.2.2.1,(ao S).2.2.2.2) L=_ from anD S D L F];rfl
abbrev sq:=nA×List UInt8
def bN (x:aq):sq:=(cZ x.1,x.2.1)
def GA (M:List aq):List aq:=M.filter λx=>decide (x.2.2=0)
theorem arW (M:List aq) (F:M.length<=360):LK (M.map aM)=some ((GA M).map bN):=by
 have h:=tH (f:=KU) M (λx=>if decide (x.2.2=0)=true then[bN x] else[]) (λk acc=>(M.map aM,((M.map aM).length),k,acc,())) (λacc=>(acc,()))
  (fun k hk=>by
   have hlen:=rU (M.take k) (λx=>if decide (x.2.2=0)=true then[bN x] else[]) (λx=>by show(if _ then[bN x] else[]).length<=1;split<;>simp)
   rw[am9] at hlen;have D:k<(M.map aM).length:=by rw[ae2];exact hk
   generalize(M.take k).flatMap (λx=>if decide (x.2.2=0)=true then[bN x] else[])=acc at hlen⊢
   simp only[KU,dY (show(k:Int)<((M.map aM).length) by omega),cond_true,au D,ar7]
   by_cases c:(M[k]).2.2=0
   · simp[dY (show(aM M[k]).2=0 from c)]
     rw[ai (by grind)]
     simp (disch:=omega) only[K0];rfl
   · simp only[dN (show¬(aM M[k]).2=0 from c),dN c,af7,if_false,cond_false,aH,aw (show k+1<=4611686018427387904 by omega),ag5]) (by
   simp[KU])
 unfold LK;rw[show ab KU (M.map aM,((M.map aM).length),0,[],())=_ from h]
 refine congrArg some ?_;unfold GA;rw[KO,List.map_flatMap];congr 1;funext x;cases decide (x.2.2=0)<;>rfl
theorem ara (M:List aq) (D:M.length<=360):Me M=some (GA M):=by
 have h:=tH (f:=Ln) M (λx=>if decide (x.2.2=0)=true then[x] else[]) (λk acc=>(M,k,acc,())) (λacc=>(acc,()))
  (fun k hk=>by
   have hlen:=rU (M.take k) (λx=>if decide (x.2.2=0)=true then[x] else[]) (λx=>by show(if _ then[x] else[]).length<=1;split<;>simp)
   rw[am9] at hlen;generalize(M.take k).flatMap (λx=>if decide (x.2.2=0)=true then[x] else[])=acc at hlen⊢
   simp only[Ln,dY (show(k:Int)<M.length by omega),cond_true,au hk]
   by_cases c:(M[k]).2.2=0
   · simp[if_true];rw[ai (by grind)]
     simp (disch:=omega) only[K0]
   · simp only[dN c,af7,if_false,cond_false,aH,aw (show k+1<=4611686018427387904 by omega),ag5]) (by
   simp[Ln])
 unfold Me;rw[show ab Ln (M,0,[],())=_ from h,aa7]
 congr 1;unfold GA;rw[KO]
def a0Z (y:aq):List UInt8×List UInt8×List UInt8:=(y.1.1,y.1.2.1,y.2.1)
theorem a4N {S:aU} {cl:List UInt8} {cat:List kI} (hC:qU cat):((jQ S cl cat).map a0Z).Nodup:=by
 unfold jQ List.Nodup;rw[List.pairwise_map,List.pairwise_flatMap];have one: ∀{s:List UInt8} {e:bO} {y:aq},y∈iq S cl s e->y.1=e/\y.2.1=s:=λ{s e y} h=>by grind[iq]
 refine⟨λx J=>?_,(List.pairwise_map.1 hC.once).imp λ{a b} q y D z F e=>q ?_⟩
 · rw[List.pairwise_flatMap];refine⟨λe _=>?_,(List.pairwise_map.1 (hC.all x J).once).imp λ{a b} q y D z F e=>q ?_⟩
   · unfold iq;split
     · grind
     · simp
   · rw[<-(one D).1,<-(one F).1];exact Prod.ext (congrArg (·.1) e) (congrArg (·.2.1) e)
 · obtain⟨L,_,h1⟩:=List.mem_flatMap.1 D;obtain⟨M,_,h2⟩:=List.mem_flatMap.1 F;rw[<-(one h1).2,<-(one h2).2];exact congrArg (·.2.2) e
structure bu (A:List aq):Prop where
 cV: ∀y∈A,dD y.1
 many:A.length<=360
 rows:A.Pairwise λx y=> ¬cC y.1.1 x.1.1<0
 once:(A.map a0Z).Nodup
theorem RE (p t:List UInt8) (J:List (List UInt8)) (m:List UInt8):
  (∃A R,bu A/\bM R/\vJ ((p,t,J),m)=some ((A.map bN,R.map aO,A,R),true))\/pn (vJ ((p,t,J),m)) (λr=>r.2=false):=by
 unfold vJ;rcases ak3 p t J with⟨S,cl,cat,N,hC,hb,hw⟩ |hw
 · rcases WT m with⟨R,hR,h1,h2⟩ |⟨c,li,Z,hc,h1,h2⟩
   · have U:=N.ts _ (amq hb);obtain⟨L,M,O,s1,s2⟩:=aox S N cl U.2.2 U.2.1 cat hC;have D:(km S L).length<=360:=by unfold km;rw[ae2];exact O.many
     refine .inl ⟨GA (km S L),R,⟨λy F=>?_,?_,?_,?_⟩,hR,?_⟩
     · have F:=(List.mem_filter.1 F).1;obtain⟨z,hz,rfl⟩:=ar1.1 F;rw[(K9 S L z).1];exact O.cV z hz
     · exact an4 (List.length_filter_le _ _) D
     · refine(List.pairwise_map.2 (M.sorted.imp λ{x y} q=>?_)).filter _;rw[(K9 S L x).1,(K9 S L y).1];intro h;rw[Zf] at q;omega
     · have e:(km S L).map a0Z=L.map a0Z:=by
         unfold km;rw[au4];exact av9 λy _=>by obtain⟨h1,h2,_⟩:=K9 S L y;unfold a0Z;grind
       refine List.Nodup.sublist (List.filter_sublist.map _) ?_;rw[e];exact(M.perm.map a0Z).nodup_iff.2 (a4N hC)
     · simp[hw,h1,h2,s1,s2,arW _ D,ara _ D]
   · refine .inr ?_;simp (disch:=omega) only[K0,hw,h1,h2];rfl
 · obtain⟨x,hw,Y⟩:=jj hw;refine .inr ?_;rcases WT m with⟨R,hR,h1,h2⟩ |⟨c,li,Z,hc,h1,h2⟩
   · simp (disch:=omega) only[K0,hw,h1,h2,Y];rfl
   · simp (disch:=omega) only[K0,hw,h1,h2,Y];rfl
theorem YS {V R α σ:Type} {f:V->Option (V⊕R)} (l:List α) (ok:α->Bool) (g:σ->α->σ) (st:Nat->σ->V) (a:σ->R) (b:R)
  (h1: ∀k (h:k<l.length) s,ok l[k]=true->f (st k s)=some (.inl (st (k+1) (g s l[k]))))
  (h2: ∀k (h:k<l.length) s,ok l[k]=false->f (st k s)=some (.inr b))
  (F: ∀s,f (st l.length s)=some (.inr (a s))) (s:σ):ab f (st 0 s)=some (if l.all ok=true then a (l.foldl g s) else b):=by
 have: ∀n k s,l.length - k=n->k<=l.length->ab f (st k s)=some (if(l.drop k).all ok=true then a ((l.drop k).foldl g s) else b):=by
  intro n
  induction n with
  |zero=>
   intro k s J hk;have e:k=l.length:=by omega
   subst e;rw[bk (F s),au0];rfl
  |succ n L=>
   intro k s J hk;have D:k<l.length:=by omega
   rw[ak7 D,at1,au9];rcases au7 (ok l[k]) with hp |hp
   · rw[aZ (h1 k D s hp),L (k+1) _ (by omega) D,hp,at4]
   · rw[bk (h2 k D s hp),hp,if_neg (by simp)]
 grind
theorem anz {V R α σ:Type} {f:V->Option (V⊕R)} (l:List α) (g:σ->α->σ) (st:Nat->σ->V) (a:σ->R)
  (h1: ∀k (h:k<l.length) s,f (st k s)=some (.inl (st (k+1) (g s l[k]))))
  (D: ∀s,f (st l.length s)=some (.inr (a s))) (s:σ):ab f (st 0 s)=some (a (l.foldl g s)):=by
 have:=YS l (λ_=>true) g st a (a s) (by grind) (by simp) D s
 grind
theorem kj {V R:Type} {f:V->Option (V⊕R)} {v v0:V} {r:Option R} (h:ab f v=r) (e:v=v0):ab f v0=r:=e▸h
def fP (v:cP):Prop:=pA v=true/\v.2.length<=20000
theorem fP.pre {v:cP} (h:fP v):v.2=[]\/preB v.2=true:=by
 have h1:=h.1;unfold pA at h1;simp[at3] at h1;rcases h1.2 with q |q
 · grind
 · grind
theorem Sd {n:Int} (h:xc n=true):0<=n/\n<=999999:=by grind[xc]
theorem fP.num {v:cP} (h:fP v):(0<=v.1.1/\v.1.1<=999999)/\(0<=v.1.2.1/\v.1.2.1<=999999)/\0<=v.1.2.2/\v.1.2.2<=999999:=by have h1:=h.1;unfold pA at h1;simp[ad0] at h1;exact⟨Sd h1.1.1.1,Sd h1.1.1.2,Sd h1.1.2⟩
theorem L8 {s:List UInt8} (h:dc s=true) (hs:s.length<=20000):fP (aR s):=⟨amE h,Es hs⟩
theorem Xb (v w:cP) (M:v.2=[]\/preB v.2=true) (hw:w.2=[]\/preB w.2=true) (N:v.2.length<=20000) (lw:w.2.length<=20000):tA (bX v) (bX w)=some (eJ v w):=by
 have hp: ∀u:cP,u.2=[]\/preB u.2=true-> ∀p∈(bX u).2.2.2,gr p=true:=by
  intro u hu p hp;unfold bX at hp;simp only[] at hp;by_cases e:u.2=[]
  · grind
  · rw[if_neg e] at hp;rcases hu with hu |hu
    · grind
    · exact R5 hu p hp
 have J: ∀u:cP,u.2.length<=20000->(bX u).2.2.2.length<=20001:=by
  intro u hu;unfold bX;simp[];by_cases e:u.2=[]
  · grind
  · rw[if_neg e];have:=(mA 46 u.2).2;omega
 rw[WB (bX v) (bX w) (hp v M) (hp w hw) (J v N) (J w lw)];unfold bX eJ iZ;simp only[];by_cases e:cg aP [v.1.1,v.1.2.1,v.1.2.2] [w.1.1,w.1.2.1,w.1.2.2]=0
 · rw[if_pos e,if_pos e];by_cases D:v.2=[]
   · rw[if_pos D,if_pos rfl];by_cases F:w.2=[]
     · grind
     · rw[if_neg F,if_neg (mE _ _),if_neg (by grind),if_pos D]
   · rw[if_neg D,if_neg (mE _ _)];by_cases F:w.2=[]
     · grind
     · rw[if_neg F,if_neg (mE _ _)];by_cases L:v.2=w.2
       · simp[L,QX]
       · grind
 · grind
theorem RO (v:cP) (h:fP v):ym v=some true:=by
 obtain⟨⟨F,a2⟩,⟨J,L⟩,c1,c2⟩:=h.num;have i0:tg (v.1.1,v.1.2.1,v.1.2.2,0,v.1.1,v.1.2.1,v.1.2.2,v.2,())=some (.inl (v.1.1,v.1.2.1,v.1.2.2,1,v.1.1,v.1.2.1,v.1.2.2,v.2,())):=by simp (disch:=omega) only[K0,tg];rfl
 have i1:tg (v.1.1,v.1.2.1,v.1.2.2,1,v.1.1,v.1.2.1,v.1.2.2,v.2,())=some (.inl (v.1.1,v.1.2.1,v.1.2.2,2,v.1.1,v.1.2.1,v.1.2.2,v.2,())):=by simp (disch:=omega) only[K0,tg];rfl
 have i2:tg (v.1.1,v.1.2.1,v.1.2.2,2,v.1.1,v.1.2.1,v.1.2.2,v.2,())=some (.inl (v.1.1,v.1.2.1,v.1.2.2,3,v.1.1,v.1.2.1,v.1.2.2,v.2,())):=by simp (disch:=omega) only[K0,tg];rfl
 have i3:tg (v.1.1,v.1.2.1,v.1.2.2,3,v.1.1,v.1.2.1,v.1.2.2,v.2,())=some (.inr (.inl (v.1.1,v.1.2.1,v.1.2.2,v.2,()))):=by rfl
 unfold ym;rw[aZ i0,aZ i1,aZ i2,bk i3];simp only[aa7];rcases h.pre with e |e
 · grind
 · have D: ¬v.2=[]:=λg=>by rw[g] at e;exact absurd e (by decide)
   rw[dN D,Wz _ h.2,e];rfl
theorem zG: ∀(k n:Nat),n<10 ^(k+1)->(kD n).length<=k+1:=by
 intro k
 induction k with
 |zero=>grind[kD]
 |succ k D=>grind[kD]
theorem Br {n:Nat} (h:n<=100000) {R:Type} {q:Option R}:J (n<=9223372036854775807) q=q:=ai (by omega)
theorem Te {n:Int} (h:0<=n/\n<=9223372036854775807):strconv_Itoa n=some (kD n.toNat):=if_pos h
theorem ap5 (v:cP) (h:fP v):IY v=some (ky v):=by
 have hc:=RO v h;obtain⟨⟨F,a2⟩,⟨J,L⟩,c1,c2⟩:=h.num;have M:=zG 5 v.1.1.toNat (by omega)
 have N:=zG 5 v.1.2.1.toNat (by omega)
 have O:=zG 5 v.1.2.2.toNat (by omega)
 have U:=h.2;unfold IY ky;rw[hc,if_pos h.1,aa7,ae8,Te (by omega),aa7]
 have Y:gp.length=1:=rfl;have Z:oa.length=1:=rfl;rw[Br (by omega),Te (by omega),aa7,Br (by grind),Br (by grind),Te (by omega),aa7,Br (by grind)]
 by_cases e:v.2=[]
 · simp (disch:=omega) only[e];simp [gp]
 · rw[dN e,am7,Br (by omega),Br (by grind)]
   have:v.2.isEmpty=false:=by cases D:v.2 with|nil=>exact absurd D e |cons _ _=>rfl
   rw[this];simp [gp,oa]
def se (c:cO):Prop:=(c=(8,(0,0,0),[]))\/(0<=c.1/\c.1<8/\fP c.2)
theorem se.cD {c:cO} (h:se c):fP c.2:=by
 rcases h with h |h
 · rw[h];exact⟨by decide,ae3 _⟩
 · grind
theorem apB {s:List UInt8} (h:fb s=true) (hs:s.length<=20000):se (jN s):=by
 unfold jN;by_cases e:s=[42]
 · rw[if_pos e];exact .inl rfl
 · rw[if_neg e];unfold fb at h;rw[dN e] at h;cases g:mc (s.take (cY s)) with
   |none=>grind
   |some op=>
    rw[g] at h;obtain⟨_,h2⟩:=Rr g;refine .inr ?_;have:0<=op/\op<8:=by unfold ops at h2;simp only[ai3,at9,or_false] at h2;omega
    exact⟨this.1,this.2,L8 h (by grind)⟩
theorem akW {s:List UInt8} (h:fb s=true):fN (jN s)=s:=by
 unfold jN;by_cases e:s=[42]
 · rw[e];rfl
 · rw[if_neg e];unfold fb at h;rw[dN e] at h;cases g:mc (s.take (cY s)) with
   |none=>grind
   |some op=>
    rw[g] at h;obtain⟨h1,h2⟩:=Rr g;have: ¬op=8:=by unfold ops at h2;simp only[ai3,at9,or_false] at h2;omega
    unfold fN;simp only[];rw[if_neg this,<-h1,Ld h,as0]
theorem aqQ (c:cO) (h:se c):JY c=some true:=by
 unfold JY;rcases h with h |⟨h1,h2,D⟩
 · grind
 · rw[dN (show¬c.1=8 by omega),dY h1,dY h2,RO c.2 D];rfl
theorem Uv {p:List UInt8} (h:mX p=true):c9 44 ((mf p).map fN)=p/\1<=(mf p).length/\(mf p).length<=4:=by
 unfold mX at h;rw[ad0,decide_eq_true_eq,ao3] at h;unfold mf;refine⟨?_,?_,by rw[ae2];exact h.1⟩
 · rw[au4]
   have:(aB 44 p).map (fN ∘jN)=aB 44 p:=by
    conv=>rhs;rw[<-List.map_id (aB 44 p)]
    exact av9 λx D=>akW (h.2 x D)
   rw[this,zd]
 · rw[ae2];exact at0.2 (mE _ _)
structure Mx (r:List (List cO)):Prop where
 one:1<=r.length/\r.length<=4
 alts: ∀a∈r,1<=a.length/\a.length<=4/\ ∀c∈a,se c
 text:(c9 124 (r.map λa=>c9 44 (a.map fN))).length<=80
theorem Rl {s:List UInt8} (h:iH s=true):Mx (dU s):=by
 unfold iH at h;rw[ad0,ad0,decide_eq_true_eq,decide_eq_true_eq,ao3] at h;obtain⟨⟨h1,h2⟩,D⟩:=h;unfold dU;refine⟨⟨by rw[ae2];exact at0.2 (mE _ _),by rw[ae2];exact h2⟩,?_,?_⟩
 · intro a L;obtain⟨p,hp,rfl⟩:=ar1.1 L;refine⟨(Uv (D p hp)).2.1,(Uv (D p hp)).2.2,?_⟩;intro c hc;unfold mf at hc;obtain⟨q,J,rfl⟩:=ar1.1 hc;have F:=D p hp;unfold mX at F;rw[ad0,ao3] at F;refine apB (F.2 q J) ?_;have N:=(mA 124 s).1 p hp;have O:=(mA 44 p).1 q J;omega
 · rw[au4]
   have:(aB 124 s).map ((λa=>c9 44 (a.map fN))∘mf)=aB 124 s:=by
    conv=>rhs;rw[<-List.map_id (aB 124 s)]
    exact av9 λx M=>(Uv (D x M)).1
   simp_all[zd]
theorem alC (r:List (List cO)) (h:Mx r):JB r=some true:=by
 have h1:=h.one
 have O: ∀a J (L M) F,a∈r->
   ab Jj (J,L,M,a,a.length,0,F,())=some (.inl (J,L,M,F,())):=by
  intro a J L M F D;obtain⟨N,a2,a3⟩:=h.alts a D;rw[kj (kg a (λ_=>true) (λk=>(J,L,M,a,(a.length:Int),(k:Int),F,())) (.inl (J,L,M,F,())) (.inr ()) ?_ ?_ ?_) ?st]
  case st=>rfl
  · grind
  · intro k hk _;simp (disch:=omega) only[K0,Jj,aqQ _ (a3 _ (ab7 hk))]
  · grind
  · simp[Jj,decide_false]
 unfold JB;simp (disch:=omega) only[K0]
 have hw:yG r=some (c9 124 (r.map λa=>c9 44 (a.map fN))):=by
  unfold yG;rw[if_pos];refine⟨by omega,λa D=>?_,λa D c hc=>?_⟩
  · have:=(h.alts a D).2.1;omega
  · rcases(h.alts a D).2.2 c hc with e |e
    · grind
    · exact .inr e.2.2
 rw[kj (kg r (λ_=>true) (λk=>(r,(r.length:Int),(k:Int),r,())) (.inl (r,())) (.inr ()) ?_ ?_ ?_) ?st]
 case st=>rfl
 · rw[if_pos (ao3.2 λ_ _=>rfl)];simp only[aa7,hw];rw[dY (by have:=h.text;omega)]
 · intro k hk _;obtain⟨N,a2,a3⟩:=h.alts _ (ab7 hk);simp (disch:=omega) only[K0,PI,O _ r r.length k r (ab7 hk)]
 · grind
 · simp[PI,decide_false]
def ov (c:cO):cP:=if c.1=6 then((c.2.1.1,c.2.1.2.1+1,0),[]) else if 0<c.2.1.1 then((c.2.1.1+1,0,0),[]) else if 0<c.2.1.2.1 then((c.2.1.1,c.2.1.2.1+1,0),[]) else((c.2.1.1,c.2.1.2.1,c.2.1.2.2+1),[])
theorem Ms (c:cO):(ov c).2=[]:=by grind[ov]
theorem arJ (c:cO) (h:fP c.2):J8 c=some (ov c):=by
 obtain⟨⟨O,a2⟩,⟨U,Y⟩,c1,c2⟩:=h.num;have M:mw c.2 0=some ((c.2.1.1+1,0,0),[]):=by unfold mw;rw[if_pos rfl,if_pos (by omega)]
 have L:mw c.2 1=some ((c.2.1.1,c.2.1.2.1+1,0),[]):=by unfold mw;rw[if_neg (by decide),if_pos rfl,if_pos (by omega)]
 have N:mw c.2 2=some ((c.2.1.1,c.2.1.2.1,c.2.1.2.2+1),[]):=by unfold mw;rw[if_neg (by decide),if_neg (by decide),if_pos rfl,if_pos (by omega)]
 unfold J8 ov;by_cases J:c.1=6
 · rw[dY J,cond_true,if_pos J,L];rfl
 · rw[dN J,cond_false,if_neg J];by_cases D:0<c.2.1.1
   · rw[dY D,cond_true,if_pos D,M];rfl
   · rw[dN D,cond_false,if_neg D];by_cases F:0<c.2.1.2.1
     · rw[dY F,cond_true,if_pos F,L];rfl
     · rw[dN F,cond_false,if_neg F,N];rfl
theorem aqV (c:cO) (h:fP c.2) (D:c.1=6\/c.1=7):Mg c.1 (bX c.2)=some (bX (ov c)):=by
 obtain⟨⟨J,a2⟩,⟨L,M⟩,c1,c2⟩:=h.num;have F:bX (ov c)=((ov c).1.1,(ov c).1.2.1,(ov c).1.2.2,[]):=by unfold bX;rw[if_pos (Ms c)]
 rw[F];unfold Mg bX;simp only[];rcases D with e |e
 · simp (disch:=omega) only[K0,ov]
 · simp (disch:=omega) only[K0];simp[ov];by_cases N:0<c.2.1.1
   · simp (disch:=omega) only[K0]
   · simp (disch:=omega) only[K0];by_cases O:0<c.2.1.2.1
     · grind
     · grind
def qI (c:cO) (v:cP):Bool:=
 if c.1=0 then decide (eJ v c.2=0) else if c.1=1 then !decide (eJ v c.2=0) else if c.1=2 then decide (eJ v c.2<0) else if c.1=3 then decide (eJ v c.2<=0)
 else if c.1=4 then decide (0<eJ v c.2) else if c.1=5 then decide (0<=eJ v c.2) else if c.1=8 then true else if 0<=eJ v c.2 then decide (eJ v (ov c)<0) else false
theorem aak (c:cO) (hc:se c) (v:cP) (U:fP v):JK c v=some (qI c v):=by
 unfold JK qI;rw[Ji v c.2 U.2 hc.cD.2,aa7];by_cases F:c.1=0
 · grind
 rw[dN F,if_neg F];by_cases J:c.1=1
 · grind
 rw[dN J,if_neg J];by_cases L:c.1=2
 · grind
 rw[dN L,if_neg L];by_cases Y:c.1=3
 · grind
 simp (disch:=omega) only[K0];by_cases M:c.1=4
 · grind
 rw[dN M,cond_false,if_neg M];by_cases N:c.1=5
 · grind
 rw[dN N,cond_false,if_neg N];by_cases O:c.1=8
 · grind
 rw[dN O,cond_false,if_neg O];by_cases D:0<=eJ v c.2
 · rw[dY D,if_pos D,arJ c hc.cD];simp[aa7];rw[Ji v _ U.2 (by rw[Ms];exact ae3 _)];rfl
 · rw[dN D,cond_false,if_neg D]
theorem anI (c:cO) (hc:se c) (v:cP) (D:fP v):Lt (fJ c) (bX v)=some (qI c v):=by
 unfold Lt qI fJ;simp only[];rw[Xb v c.2 D.pre hc.cD.pre D.2 hc.cD.2,aa7];by_cases F:c.1=0
 · grind
 rw[dN F,if_neg F];by_cases J:c.1=1
 · grind
 rw[dN J,if_neg J];by_cases L:c.1=2
 · grind
 rw[dN L,if_neg L];by_cases Z:c.1=3
 · grind
 simp (disch:=omega) only[K0];by_cases M:c.1=4
 · grind
 rw[dN M,if_neg M];by_cases N:c.1=5
 · grind
 rw[dN N,if_neg N];by_cases O:c.1=8
 · grind
 simp (disch:=omega) only[K0];by_cases U:0<=eJ v c.2
 · have Y:c.1=6\/c.1=7:=by
     rcases hc with hc |hc
     · rw[hc] at O;exact absurd rfl O
     · omega
   rw[dY U,if_pos U,aqV c hc.cD Y];simp[aa7];rw[Xb v _ D.pre (.inl (Ms c)) D.2 (by rw[Ms];exact ae3 _)];rfl
 · simp (disch:=omega) only[K0]
def acv (a b:cP):Bool:=decide (a.1.1=b.1.1)&&(decide (a.1.2.1=b.1.2.1)&&decide (a.1.2.2=b.1.2.2))
def AM (v:cP) (c:cO):Bool:= !decide (c.2.2=[])&&acv c.2 v
def oz (v:cP) (a:List cO):Bool:=a.all (λc=>qI c v)&&(decide (v.2=[])||a.any (AM v))
def gj (r:List (List cO)) (v:cP):Bool:=r.any (oz v)
theorem aau {α:Type} (q:α->Bool): ∀(l:List α) (b:Bool),l.foldl (λn c=>n||q c) b=(b||l.any q)
 |[],b=>(Bool.or_false b).symm
 |x::t,b=>by rw[au9,aau q t,List.any_cons,Bool.or_assoc]
theorem Y5 {α:Type} (p q:α->Bool): ∀(l:List α) (a b:Bool),l.foldl (λn c=>(n.1&&p c,n.2||q c)) (a,b)=(a&&l.all p,b||l.any q)
 |[],a,b=>by simp (disch:=omega) only[K0,List.all_nil,List.any_nil];rfl
 |x::t,a,b=>by rw[au9,Y5 p q t,List.any_cons,at1,Bool.or_assoc,Bool.and_assoc]
theorem abo (a:List cO) (L:a.length<=1000) (hc: ∀c∈a,se c) (v:cP) (F:fP v):LN a v=some (oz v a):=by
 unfold LN;rw[kj (YS a (λc=>qI c v) (λn c=>n||AM v c) (λk n=>(n,a,(a.length:Int),(k:Int),v.1.1,v.1.2.1,v.1.2.2,v.2,())) (λn=>.inl (n,())) (.inr ()) ?_ ?_ ?_ (decide (v.2=[]))) ?st]
 case st=>rfl
 · rw[aau];unfold oz;rcases au7 (a.all λc=>qI c v) with e |e
   · grind
   · grind
 · intro k hk n hp;have D:=aak a[k] (hc _ (ab7 hk)) v F;rw[hp] at D;have J:((v.1.1,v.1.2.1,v.1.2.2),v.2)=v:=rfl;simp (disch:=omega) only[K0,KX,D];cases n with
   |true=>rfl
   |false=>
    simp (disch:=omega) only[K0];unfold AM;by_cases e:(a[k]).2.2=[]
    · grind
    · rw[dN e];rfl
 · intro k hk n hp;have D:=aak a[k] (hc _ (ab7 hk)) v F;rw[hp] at D;have J:((v.1.1,v.1.2.1,v.1.2.2),v.2)=v:=rfl;simp (disch:=omega) only[K0,KX,D]
 · simp[KX]
theorem anQ (r:List (List cO)) (F:Mx r) (v:cP) (J:fP v):JX r v=some (gj r v):=by
 unfold JX;rw[alC r F];simp (disch:=omega) only[RO v J];have h1:=F.one;have M:((v.1.1,v.1.2.1,v.1.2.2),v.2)=v:=rfl;rw[kj (kg r (λa=> !oz v a) (λk=>(r,(r.length:Int),(k:Int),v.1.1,v.1.2.1,v.1.2.2,v.2,())) (.inl ()) (.inr ()) ?_ ?_ ?_) ?st]
 case st=>rfl
 · unfold gj;have e:(r.all λa=> !oz v a)= !r.any (oz v):=by rw[List.all_eq_not_any_not];simp[Bool.not_not]
   grind
 · intro k hk hp;obtain⟨L,a2,a3⟩:=F.alts _ (ab7 hk);have D:=abo r[k] (by omega) a3 v J
   rw[Bool.not_eq_true'] at hp;rw[hp] at D;simp (disch:=omega) only[K0,JA,D]
 · intro k hk hp;obtain⟨L,a2,a3⟩:=F.alts _ (ab7 hk);have D:=abo r[k] (by omega) a3 v J
   rw[Bool.not_eq_false'] at hp;rw[hp] at D;simp (disch:=omega) only[K0,JA,D]
 · simp[JA]
theorem ap4 (c:cO) (i:Decidable (0<(((fJ c).2.2.2.2.length:Nat):Int))): @decide (0<(((fJ c).2.2.2.2.length:Nat):Int)) i= !decide (c.2.2=[]):=by
 have:(fJ c).2.2.2.2=if c.2.2=[] then[] else aB 46 c.2.2:=rfl
 by_cases e:c.2.2=[]
 · grind
 · have h:=at0.2 (mE 46 c.2.2);grind
theorem apn (r:List (List acR)) (j:Nat) (F:j<r.length) (a:List cO) (D:r[j]=a.map fJ) (hl:a.length<=1000) (hc: ∀c∈a,se c) (v:cP) (N:fP v) (b:Bool):
  ab Fc (r,(j:Int),true,b,0,(bX v).1,(bX v).2.1,(bX v).2.2.1,(bX v).2.2.2,())=some (r,(j:Int),a.all (λc=>qI c v),b||a.any (AM v),(bX v).1,(bX v).2.1,(bX v).2.2.1,(bX v).2.2.2,()):=by
 have U:((bX v).1,(bX v).2.1,(bX v).2.2.1,(bX v).2.2.2)=bX v:=rfl;have main:=anz (f:=Fc) a (λ(n) c=>(n.1&&qI c v,n.2||AM v c)) (λk n=>(r,j,n.1,n.2,k,(bX v).1,(bX v).2.1,(bX v).2.2.1,(bX v).2.2.2,())) (λn=>(r,j,n.1,n.2,(bX v).1,(bX v).2.1,(bX v).2.2.1,(bX v).2.2.2,())) ?_ ?_ (true,b)
 · exact main.trans (by rw[Y5,at4])
 · intro k hk n;obtain⟨n1,n2⟩:=n;have M:k<(a.map fJ).length:=by rw[ae2];exact hk
   have L:(a.map fJ)[k]=fJ a[k]:=ar7 _;have hh:=anI a[k] (hc _ (ab7 hk)) v N;have i1:(fJ a[k]).2.1=(a[k]).2.1.1:=rfl;have i2:(fJ a[k]).2.2.1=(a[k]).2.1.2.1:=rfl;have i3:(fJ a[k]).2.2.2.1=(a[k]).2.1.2.2:=rfl;have O:(bX v).1=v.1.1:=rfl;have j2:(bX v).2.1=v.1.2.1:=rfl;have j3:(bX v).2.2.1=v.1.2.2:=rfl;have Y:=aH k;have Z: ∀{R:Type} (q:Option R),J (aa .i64 (k+1:Nat)) q=q:=λq=>aw (by omega)
   simp only[Fc,au F,D,au M,L,ap4];unfold AM acv;rw[O];by_cases p0:(a[k]).2.2=[]
   · grind
   · grind
 · intro n;simp only[Fc,au F,D,ae2,ak0,decide_false,cond_false]
theorem Ya (r:List (List cO)) (D:Mx r) (v:cP) (M:fP v):FV (r.map λa=>a.map fJ) (bX v)=some (gj r v):=by
 unfold FV;have h1:=D.one
 have F:decide ((((bX v).2.2.2).length:Int)=0)=decide (v.2=[]):=by
  have:(bX v).2.2.2=if v.2=[] then[] else aB 46 v.2:=rfl
  by_cases e:v.2=[]
  · grind
  · have h:=at0.2 (mE 46 v.2);rw[dN e,dN (by grind)]
 have step: ∀k (hk:k<r.length),Lu ((r.map λa=>a.map fJ),k,(bX v).1,(bX v).2.1,(bX v).2.2.1,(bX v).2.2.2,())=if oz v r[k]=true then some (.inr (.inr ())) else some (.inl ((r.map λa=>a.map fJ),((k+1):Int),(bX v).1,(bX v).2.1,(bX v).2.2.1,(bX v).2.2.2,())):=by
  intro k hk;obtain⟨N,a2,a3⟩:=D.alts _ (ab7 hk);have L:k<(r.map λa=>a.map fJ).length:=by rw[ae2];omega
  have J:=apn (r.map λa=>a.map fJ) k L r[k] (ar7 _) (by omega) a3 v M (decide (v.2=[]))
  simp (disch:=omega) only[K0,Lu,F,J];unfold oz;rcases au7 ((r[k]).all λc=>qI c v) with e |e
  · grind
  · rw[e];rfl
 rw[kj (kg r (λa=> !oz v a) (λk=>((r.map λa=>a.map fJ),(k:Int),(bX v).1,(bX v).2.1,(bX v).2.2.1,(bX v).2.2.2,())) (.inl ()) (.inr ()) ?_ ?_ ?_) ?st]
 case st=>rfl
 · unfold gj;have e:(r.all λa=> !oz v a)= !r.any (oz v):=by rw[List.all_eq_not_any_not];simp[Bool.not_not]
   rw[e];rcases au7 (r.any (oz v)) with g |g
   · rw[g];rfl
   · rw[g];rfl
 · grind
 · grind
 · simp[Lu,ak0]
section
variable {α:Type}
theorem Sz {o l:List α} {j:Nat} (h:o.drop j=l.drop j) (D:j<l.length):o[j]? =some l[j]:=by
 have e:(o.drop j)[0]? =(l.drop j)[0]? :=by rw[h]
 grind
theorem Fm {o l:List α} {j:Nat} (h:o.drop j=l.drop j):o.drop (j+1)=l.drop (j+1):=by rw[<-List.tail_drop,h,List.tail_drop]
theorem aaE {o l:List α} {i j:Nat} {x:α} (h:o.drop j=l.drop j) (D:i<j):(o.set i x).drop j=l.drop j:=by rw[List.drop_set_of_lt D,h]
theorem ZC {o:List α} {i:Nat} {x:α} (D:i<o.length):(o.set i x).take (i+1)=o.take i++[x]:=by rw[at7 (by grind),List.getElem_set_self,List.take_set_of_le (ab8 _)]
theorem aaG (o:List α) (k:Nat) (z:α) (hk:k<=o.length):(o.take k++List.replicate (o.length - k) z).take k=o.take k:=by grind
theorem abA (o:List α) (k:Nat) (z:α) (hk:k<=o.length):(o.take k++List.replicate (o.length - k) z).length=o.length:=by grind
end
theorem apy {V R α:Type} {f:V->Option (V⊕R)} (l:List α) (g:α->Bool) (st:Nat->Nat->List α->V) (out:Nat->List α->R)
  (h1: ∀i j o,i<j->(O:j<l.length)->o.length=l.length->o[j]? =some l[j]->f (st i j o)=some (.inl (if g l[j]=true then st i (j+1) o else st (i+1) (j+1) (o.set i l[j]))))
  (h2: ∀i o,o.length=l.length->f (st i l.length o)=some (.inr (out i o))):
  ∀n i j o,l.length - j=n->i<j->j<=l.length->o.length=l.length->o.drop j=l.drop j->o.take i=(l.take j).filter (λx=> !g x)->
   ∃N o',ab f (st i j o)=some (out N o')/\o'.length=l.length/\N<l.length/\o'.take N=l.filter (λx=> !g x):=by
 intro n
 induction n with
 |zero=>
  intro i j o Z L O D J F;obtain rfl:j=l.length:=by omega
  rw[as1] at F;exact⟨i,o,bk (h2 i o D),D,L,F⟩
 |succ n Y=>
  intro i j o Z L O D J F;have M:j<l.length:=by omega
  have hf:=h1 i j o L M D (Sz J M);have U:l.take (j+1)=l.take j++[l[j]]:=at7 M;by_cases e:g l[j]=true
  · rw[if_pos e] at hf;rw[aZ hf];exact Y i (j+1) o (by omega) (by omega) (by omega) D (Fm J) (by rw[U,List.filter_append,F];simp [e])
  · rw[if_neg e] at hf;rw[aZ hf];exact Y (i+1) (j+1) _ (by omega) (by omega) (by omega) (by grind) (aaE (Fm J) (by omega)) (by rw[ZC (by omega),U,List.filter_append,F];simp [e])
theorem api {V α:Type} {f:V->Option (V⊕(Unit⊕Int×Unit))} (l:List α) (g:α->Bool) (st:Nat->V)
  (h1: ∀j,(J:j<l.length)->f (st j)=some (if g l[j]=true then .inr (.inr ((j:Int),())) else .inl (st (j+1))))
  (h2:f (st l.length)=some (.inr (.inl ()))): ∀n j,l.length - j=n->j<=l.length->(l.take j).filter (λx=> !g x)=l.take j->
   (ab f (st j)=some (.inl ())/\l.filter (λx=> !g x)=l)\/ ∃k,∃h:k<l.length,ab f (st j)=some (.inr ((k:Int),()))/\g l[k]=true/\(l.take k).filter (λx=> !g x)=l.take k:=by
 intro n
 induction n with
 |zero=>
  intro j L J D;obtain rfl:j=l.length:=by omega
  rw[as1] at D;exact .inl ⟨bk h2,D⟩
 |succ n M=>
  intro j L J D;have F:j<l.length:=by omega
  have hf:=h1 j F;by_cases e:g l[j]=true
  · rw[if_pos e] at hf;exact .inr ⟨j,F,bk hf,e,D⟩
  · rw[if_neg e] at hf;rw[aZ hf];exact M (j+1) (by omega) (by omega) (by rw[at7 F,List.filter_append,D];simp [e])
theorem abm {V α:Type} {f:V->Option (V⊕(Unit⊕Int×Unit))} (l:List α) (g:α->Bool) (st:Int->V)
 (h1: ∀j:Nat,(D:j<l.length)->f (st j)=some (if g l[j]=true then .inr (.inr ((j:Int),())) else .inl (st ((j+1:Nat):Int))))
 (h2:f (st (l.length:Int))=some (.inr (.inl ()))):
 (ab f (st 0)=some (.inl ())/\l.filter (λx=> !g x)=l)\/ ∃k:Nat,∃h:k<l.length,ab f (st 0)=some (.inr ((k:Int),()))/\g l[k]=true/\(l.take k).filter (λx=> !g x)=l.take k:=api l g (λj=>st j) h1 h2 _ 0 rfl (ae3 _) rfl
theorem abz {V:Type} {f:V->Option (V⊕(Int×List Int×Unit))} (l:List Int) (hl:l.length<1000000000) (g:Int->Bool) (st:Int->Int->List Int->V)
  (h1: ∀(i j:Nat) o,i<j->(hj:j<l.length)->o.length=l.length->o[j]? =some l[j]->f (st i j o)=some (.inl (if g l[j]=true then st i ((j+1:Nat):Int) o else st ((i+1:Nat):Int) ((j+1:Nat):Int) (o.set i l[j]))))
  (h2: ∀(i:Nat) o,o.length=l.length->f (st i l.length o)=some (.inr ((i:Int),o,()))) (k:Nat) (hk:k<l.length) (O:g l[k]=true) (U:(l.take k).filter (λx=> !g x)=l.take k):
  (J (aa .i64 ((k:Int)+1))<|(ab f (st k ((k:Int)+1) l)).bind λ(D,F,_)=>
   J (0<=D/\D<=(F.length:Int)/\0<F.length)<|J True<|
   J (0<=D/\D<=((F.take D.toNat++List.replicate (F.length - D.toNat) 0).length:Int)/\0<(F.take D.toNat++List.replicate (F.length - D.toNat) 0).length)<|
   some ((F.take D.toNat++List.replicate (F.length - D.toNat) 0).take D.toNat))=some (l.filter λx=> !g x):=by
 obtain⟨L,o',e,Y,Z,N⟩:=apy l g (λi j o=>st i j o) (λi o=>((i:Int),o,())) h1 h2 _ k (k+1) l rfl (by simp) (by omega) rfl rfl (by rw[at7 hk,List.filter_append,U];simp [O])
 have e:ab f (st k (k+1) l)=some ((L:Int),o',()):=e;have M: ∀{R:Type} (q:Option R),J (0<=(L:Int)/\(L:Int)<=o'.length/\0<o'.length) q=q:=λq=>ai ⟨by omega,by omega,by omega⟩
 have c: ∀{R:Type} (q:Option R),J (aa .i64 (k+1)) q=q:=λq=>aw (n:=k+1) (by omega)
 rw[c,e];simp only[aa7,ae9,M,abA o' L _ (by omega),aaG o' L _ (by omega),ai trivial]
 rw[N]
theorem Qc: ∀(l:List Want) (x y:Want),db (l++[x,y])=if y=x then db (l++[x]) else db (l++[x])++[y]
 |[],x,y=>by
  show(if x=y then db [y] else x::db [y])=_
  by_cases e:y=x
  · grind
  · rw[if_neg e,if_neg (λh=>e h.symm)];rfl
 |[a],x,y=>by
  have D:=Qc [] x y;show(if a=x then db [x,y] else a::db [x,y])=if y=x then(if a=x then db [x] else a::db [x]) else(if a=x then db [x] else a::db [x])++[y]
  grind
 |a::b::t,x,y=>by
  have D:=Qc (b::t) x y;show(if a=b then db (b::(t++[x,y])) else a::db (b::(t++[x,y])))=if y=x then(if a=b then db (b::(t++[x])) else a::db (b::(t++[x]))) else(if a=b then db (b::(t++[x])) else a::db (b::(t++[x])))++[y]
  grind
theorem WV {l:List Want} {j:Nat} (D:j+1<l.length):db (l.take (j+2))=if l[j+1]=l[j] then db (l.take (j+1)) else db (l.take (j+1))++[l[j+1]]:=by
 rw[at7 D,at7 (by omega),as2]
 exact Qc _ _ _
theorem LI (a b:Want):(decide (a.1=b.1)&&decide (a.2=b.2))=decide (a=b):=by grind
theorem aji (l:List Want) (hl:l.length<1000000) (s:Nat): ∀n q k o,l.length - (s+q)=n->1<=q->s+q<=l.length->k+1<=s+q->o.length=l.length->o.drop (s+q - 1)=l.drop (s+q - 1)->o.take k=db (l.take (s+q))->
  ∃(N:Nat) (o':List Want),ab th ((k:Int),s,(q:Int),o,())=some ((N:Int),o',())/\o'.length=l.length/\N<l.length/\o'.take N=db l:=by
 intro n
 induction n with
 |zero=>
  intro q k o hn hq hj hk L D F;have e:s+q=l.length:=by omega
  rw[e,as1] at F;refine⟨k,o,bk ?_,L,by omega,F⟩
  simp only[th,dN (show¬(q:Int)<((o.length - s:Nat):Int) by omega),cond_false]
 |succ n ih=>
  intro q k o hn hq hj hk L D F;obtain⟨p,rfl⟩: ∃p,q=p+1:=⟨q - 1,by omega⟩
  have ah:s+p+1<l.length:=by omega
  have D:o.drop (s+p)=l.drop (s+p):=D;have g1:o[s+(p+1)]? =some l[s+p+1]:=Sz (j:=s+p+1) (Fm D) ah;have g0:o[s+p]? =some l[s+p]:=Sz D (by omega)
  have M: ∃z,o[k]? =some z:=⟨o[k]'(by omega),ae6 (by omega)⟩
  obtain⟨z,M⟩:=M;have Z:=WV ah;have Y:(((p+1:Nat):Int) - 1)=(p:Nat):=by omega
  have c1: ∀{R:Type} (q:Option R),J (0<=((p+1:Nat):Int)/\((p+1:Nat):Int)<((o.length - s:Nat):Int)) q=q:=λq=>ai ⟨by omega,by omega⟩
  have c2: ∀{R:Type} (q:Option R),J (0<=((p:Nat):Int)/\((p:Nat):Int)<((o.length - s:Nat):Int)) q=q:=λq=>ai ⟨by omega,by omega⟩
  have c3: ∀{R:Type} (q:Option R),J (0<=((k:Nat):Int)/\((k:Nat):Int)<(o.length:Int)) q=q:=λq=>ai ⟨by omega,by omega⟩
  have O: ∀{R:Type} (q:Option R),J (aa .i64 ((p:Nat):Int)) q=q:=λq=>aw (by omega)
  have c5: ∀{R:Type} (q:Option R),J (aa .i64 ((k:Int)+1)) q=q:=λq=>aw (n:=k+1) (by omega)
  have U: ∀{R:Type} (q:Option R),J (aa .i64 (((p+1:Nat):Int)+1)) q=q:=λq=>aw (n:=p+1+1) (by omega)
  by_cases e:l[s+p+1]=l[s+p]
  · have hf:th ((k:Int),s,((p+1:Nat):Int),o,())=some (.inl ((k:Int),s,((p+2:Nat):Int),o,())):=by
      simp only[th,dY (show((p+1:Nat):Int)<((o.length - s:Nat):Int) by omega),cond_true,c1,ae9,g1,aa7,Y,O,c2,g0,LI,e,decide_true,ae8,cond_false,U]
      rfl
    rw[aZ hf];exact ih (p+2) k o (by omega) (by omega) (by omega) (by omega) L (Fm D) (by rw[F];show db (l.take (s+p+1))=db (l.take (s+p+2));rw[Z,if_pos e])
  · have hf:th ((k:Int),s,((p+1:Nat):Int),o,())=some (.inl (((k+1:Nat):Int),s,((p+2:Nat):Int),o.set k l[s+p+1],())):=by
       simp only[th,dY (show((p+1:Nat):Int)<((o.length - s:Nat):Int) by omega),cond_true,c1,ae9,g1,aa7,Y,O,c2,g0,LI,dN e,am7,c3,M,c5,U]
       rfl
    rw[aZ hf]
    exact ih (p+2) (k+1) _ (by omega) (by omega) (by omega) (by omega) (by rw[av0];exact L) (aaE (Fm D) (by omega)) (by
     rw[ZC (by omega),F]
     show db (l.take (s+p+1))++_=db (l.take (s+p+2));rw[Z,if_neg e])
theorem ajh (l:List Want) (hl:l.length<1000000): ∀n j,l.length - (j+1)=n->j+1<=l.length->db (l.take (j+1))=l.take (j+1)->
  ab vy (((j+1:Nat):Int),l,())=some (.inl (db l,()))\/ab vy (((j+1:Nat):Int),l,())=some (.inr (db l,())):=by
 intro n
 induction n with
 |zero=>
  intro j hn hj D;have e:j+1=l.length:=by omega
  rw[e,as1] at D;refine .inl (bk ?_);simp only[vy,dN (show¬(((j+1:Nat):Int)<(l.length:Int)) by omega),cond_false,D]
 |succ n ih=>
  intro j hn hj D;have M:j+1<l.length:=by omega
  have L:=WV M;have g1:l[j+1]? =some l[j+1]:=ae6 M;have g0:l[j]? =some l[j]:=ae6 (by omega)
  have O:(((j+1:Nat):Int) - 1)=(j:Nat):=by omega
  have c1: ∀{R:Type} (q:Option R),J (0<=((j+1:Nat):Int)/\((j+1:Nat):Int)<(l.length:Int)) q=q:=λq=>ai ⟨by omega,by omega⟩
  have c2: ∀{R:Type} (q:Option R),J (0<=((j:Nat):Int)/\((j:Nat):Int)<(l.length:Int)) q=q:=λq=>ai ⟨by omega,by omega⟩
  have Y: ∀{R:Type} (q:Option R),J (0<=((j+1:Nat):Int)/\((j+1:Nat):Int)<=(l.length:Int)/\0<l.length) q=q:=λq=>ai ⟨by omega,by omega,by omega⟩
  have N: ∀{R:Type} (q:Option R),J (aa .i64 ((j:Nat):Int)) q=q:=λq=>aw (by omega)
  have Z: ∀{R:Type} (q:Option R),J (aa .i64 (((j+1:Nat):Int)+1)) q=q:=λq=>aw (n:=j+1+1) (by omega)
  by_cases e:l[j+1]=l[j]
  · rw[if_pos e] at L;obtain⟨F,o',h1,h2,h3,h4⟩:=aji l hl (j+1) _ 1 (j+1) l rfl (ab8 _) (by omega) (by omega) rfl rfl (by rw[<-D];exact L.symm)
    refine .inr (bk ?_);have h1:ab th (((j+1:Nat):Int),j+1,(1:Int),l,())=some ((F:Int),o',()):=h1;have U: ∀{R:Type} (q:Option R),J (0<=((F:Nat):Int)/\((F:Nat):Int)<=(o'.length:Int)/\0<o'.length) q=q:=λq=>ai ⟨by omega,by omega,by omega⟩
    simp only[vy,dY (show(((j+1:Nat):Int)<(l.length:Int)) by omega),cond_true,c1,ae9,g1,aa7,O,N,c2,g0,LI,e,decide_true,Y,h1,U,abA o' F _ (by omega),aaG o' F _ (by omega),ai trivial]
    rw[h4]
  · rw[if_neg e] at L
    have hf:vy (((j+1:Nat):Int),l,())=some (.inl (((j+1+1:Nat):Int),l,())):=by
     simp only[vy,dY (show(((j+1:Nat):Int)<(l.length:Int)) by omega),cond_true,c1,ae9,g1,aa7,O,N,c2,g0,LI,dN e,cond_false,Z]
     rfl
    rw[aZ hf];exact ih (j+1) (by omega) (by omega) (by show db (l.take (j+2))=_;rw[L,D,at7 M])
theorem amh (l:List Want) (F:l.length<1000000):CY l=some (db l):=by
 unfold CY;by_cases h:(l.length:Int)<2
 · rw[dY h]
   match l,h with
   |[],_=>rfl
   |[x],_=>rfl
   |_::_::_,h=>grind
 · rw[dN h]
   have D:db (l.take (0+1))=l.take (0+1):=by
    match l,h with
    |x::t,_=>rfl
    |[],h=>rfl
   have:=ajh l F _ 0 rfl (by omega) D
   grind
def aN {α β:Type} (e:Nat->α->List β):List α->Nat->List β
 |[],_=>[]
 |x::t,k=>e k x++aN e t (k+1)
theorem iU {α β:Type} {e:Nat->α->List β} {m:Nat}: ∀(l:List α) (k:Nat),(∀j (h:j<l.length),(e (k+j) l[j]).length<=m)->(aN e l k).length<=m*l.length
 |[],k,_=>ab8 _
 |x::t,k,h=>by
  have h0:(e k x).length<=m:=h 0 (Nat.zero_lt_succ _);have h1:=iU t (k+1) (λj D=>by have:=h (j+1) (Nat.succ_lt_succ D);rw[show k+1+j=k+(j+1) by omega];exact this)
  show(e k x++aN e t (k+1)).length<=m*(t.length+1);rw[ae7,Nat.mul_add];omega
theorem aaN {α β:Type} {e:Nat->α->List β} {y:β}: ∀(l:List α) (k:Nat),y∈aN e l k<-> ∃j,∃h:j<l.length,y∈e (k+j) l[j]
 |[],k=>⟨λh=>(at9 h).elim,λh=>by obtain⟨j,h,_⟩:=h;exact absurd h (Nat.not_lt_zero j)⟩
 |x::t,k=>by
  show y∈e k x++aN e t (k+1)<->_;rw[List.mem_append,aaN t (k+1)];constructor
  · rintro(h |⟨j,D,h⟩)
    · exact⟨0,Nat.zero_lt_succ _,h⟩
    · exact⟨j+1,Nat.succ_lt_succ D,by rw[show k+(j+1)=k+1+j by omega];exact h⟩
  · grind
theorem dG {α β:Type} {e:Nat->α->List β} {y:β} {l:List α}:y∈aN e l 0<-> ∃j,∃h:j<l.length,y∈e j l[j]:=by rw[aaN];simp[Nat.zero_add]
theorem tR {α β γ:Type} {e:Nat->α->List β} {g:β->γ}: ∀(l:List α) (k:Nat),(aN e l k).map g=aN (λj x=>(e j x).map g) l k
 |[],k=>rfl
 |x::t,k=>by show(e k x++aN e t (k+1)).map g=(e k x).map g++aN _ t (k+1);rw[ag9,tR t (k+1)]
theorem XI {α β γ:Type} {e:Nat->γ->List β} {g:α->γ}: ∀(l:List α) (k:Nat),aN e (l.map g) k=aN (λj x=>e j (g x)) l k
 |[],k=>rfl
 |x::t,k=>by show e k (g x)++aN e (t.map g) (k+1)=_;rw[XI t (k+1)];rfl
theorem Zj {α β:Type} {e D:Nat->α->List β}: ∀(l:List α) (k:Nat),(∀j (h:j<l.length),(e (k+j) l[j]).Perm (D (k+j) l[j]))->(aN e l k).Perm (aN D l k)
 |[],k,_=>.refl _
 |x::t,k,h=>by have h0:(e k x).Perm (D k x):=h 0 (Nat.zero_lt_succ _);exact h0.append (Zj t (k+1) (λj F=>by have:=h (j+1) (Nat.succ_lt_succ F);rw[show k+1+j=k+(j+1) by omega];exact this))
theorem eX {V R α β:Type} {f:V->Option (V⊕R)} {v0:V} (l:List α) (e:Nat->α->List β) (m a0:Nat) (st:Nat->List β->V) (out:List β->R)
  (hm: ∀k (h:k<l.length),(e k l[k]).length<=m)
  (h1: ∀k (h:k<l.length) (acc:List β),acc.length<=a0+m*k->f (st k acc)=some (.inl (st (k+1) (acc++e k l[k]))))
  (J: ∀acc:List β,f (st l.length acc)=some (.inr (out acc))) (acc:List β) (F:acc.length<=a0) (h0:st 0 acc=v0):ab f v0=some (out (acc++aN e l 0)):=by
 have: ∀n k acc,l.length - k=n->k<=l.length->acc.length<=a0+m*k->ab f (st k acc)=some (out (acc++aN e (l.drop k) k)):=by
  intro n
  induction n with
  |zero=>
   intro k acc L hk F;have e:k=l.length:=by omega
   subst e;rw[bk (J acc),au0];show _=some (out (acc++[]));grind
  |succ n M=>
   intro k acc L hk F;have D:k<l.length:=by omega
   rw[aZ (h1 k D acc F),ak7 D];have N:=hm k D;rw[M (k+1) _ (by omega) D (by grind)]
   show _=some (out (acc++(e k l[k]++aN e (l.drop (k+1)) (k+1))));grind
 grind
theorem rR {β:Type} (b:Bool) (x:β):(if b=true then[x] else[]).length<=1:=by grind
theorem ib {α:Type} {acc:List α} {x:α} (D:acc.length<=999999999) {R:Type} {q:Option R}:J (acc.length+([x]:List α).length<=1000000000) q=q:=ai (by grind)
theorem kC {A:List aq} {k:Nat} (h:k<A.length) {R:Type} (f:sq->Option R):(ag (A.map bN) (k:Int)).bind f=f (bN A[k]):=by rw[au (l:=A.map bN) (by grind),ar7]
def kJ (A:List aq) (s:List UInt8):List Int:=aN (λi (y:aq)=>if decide (y.1.1=s)=true then[(i:Int)] else[]) A 0
theorem of_eq (A:List aq) (hA:A.length<=360) (s:List UInt8):EU (A.map bN) s=some (kJ A s):=by
 unfold EU;rw[eX A (λi y=>if decide (y.1.1=s)=true then[(i:Int)] else[]) 1 0 (λk acc=>(s,A.map bN,((A.map bN).length:Int),(k:Int),acc,())) (λacc=>(acc,())) (by grind) ?_ ?_ [] (ae3 _) ?st]
 case st=>rfl
 · rfl
 · intro k hk acc M;have D:=aH k;have F: ∀{R:Type} (q:Option R),J (aa .i64 (k+1:Nat)) q=q:=λq=>aw (by omega)
   have L:(bN A[k]).1.1=(A[k]).1.1:=rfl;simp only[Qt,ae2,dY (show(k)<(A.length:Int) by omega),cond_true,kC hk,L,D,F]
   by_cases e:(A[k]).1.1=s
   · rw[dY e,cond_true,ib (by omega),if_pos rfl]
   · grind
 · simp[Qt]
def uq (n:al) (y:aq):Bool:=decide (y.1.1=n.1)&&gj (dU n.2.1) (aR y.1.2.1)
def eT (A:List aq) (n:al):List Int:=aN (λi (y:aq)=>if uq n y=true then[(i:Int)] else[]) A 0
theorem aaw {α:Type} {g:Int->Bool} {p q:α->Bool}: ∀(l:List α) (k:Nat),(∀j (h:j<l.length),g ((k+j:Nat):Int)= !q l[j])->
  (aN (λi y=>if p y=true then[(i:Int)] else[]) l k).filter (λx=> !g x)=aN (λi y=>if(p y&&q y)=true then[(i:Int)] else[]) l k
 |[],k,_=>rfl
 |x::t,k,h=>by
  have F:=aaw (p:=p) (q:=q) t (k+1) (λj D=>by have:=h (j+1) (Nat.succ_lt_succ D);rw[show k+1+j=k+(j+1) by omega];exact this)
  have h0:=h 0 (Nat.zero_lt_succ _);show((if p x=true then[(k:Int)] else[])++aN _ t (k+1)).filter _=((if(p x&&q x)=true then[(k:Int)] else[])++aN _ t (k+1))
  grind
theorem arO {d:dC} {d1:List sq} {l:List Int} (N:l.length<1000000000) (g:Int->Bool) (F: ∀i∈l,ze i d d1=some (g i)):IC d d1 l=some (l.filter λx=> !g x):=by
 unfold IC Pj
 have H:=abm (f:=IA) l g (λj=>(l,d,d1,l.length,j,())) (λj D=>by
  have L: ∀{R:Type} (q:Option R),J (aa .i64 (j+1)) q=q:=λq=>aw (n:=j+1) (by omega)
  have M:=F _ (ab7 D);simp (disch:=omega) only[K0,IA,M];rcases au7 (g l[j]) with e |e
  · rw[e];rfl
  · rw[e];rfl) (by simp[IA])
 rcases H with⟨e,h⟩ |⟨k,hk,e,h1,h2⟩
 · rw[e,h];rfl
 · rw[e];simp only[dN (show¬((k:Int)= -1) by omega)]
   refine abz (f:=Iy) l N g (λi j o=>(d,d1,i,j,o,())) (λi j o Z D O U=>?_) (λi o O=>?_) k hk h1 h2
   · have c1: ∀{R:Type} (q:Option R),J (0<=j/\j<o.length) q=q:=λq=>ai ⟨by omega,by omega⟩
     have c2: ∀{R:Type} (q:Option R),J (0<=i/\i<o.length) q=q:=λq=>ai ⟨by omega,by omega⟩
     have Y: ∀{R:Type} (q:Option R),J (aa .i64 (i+1)) q=q:=λq=>aw (n:=i+1) (by omega)
     have L: ∀{R:Type} (q:Option R),J (aa .i64 (j+1)) q=q:=λq=>aw (n:=j+1) (by omega)
     have g1:=ae6 (by omega)
     simp (disch:=omega) only[K0,Iy,U,F _ (ab7 D)];rcases au7 (g l[j]) with e |e
     · rw[e];rfl
     · rw[e];rfl
   · simp (disch:=omega) only[K0,Iy]
theorem T8 (A:List aq) (hA:bu A) (n:al) (J:iH n.2.1=true):zJ (A.map bN) (aO n)=some (eT A n):=by
 have hs:=hA.many;unfold zJ;rw[show(aO n).1=n.1 from rfl,of_eq A hs n.1,aa7]
 have hf: ∀j (h:j<A.length),ze j (aO n) (A.map bN)=some (!gj (dU n.2.1) (aR (A[j]).1.2.1)):=by intro j F;have he:=hA.cV _ (ab7 F);unfold ze;rw[kC F,show(aO n).2.1=dU n.2.1 from rfl,show(bN A[j]).1.2.1=aR (A[j]).1.2.1 from rfl,anQ _ (Rl J) _ (L8 he.cD (by have:=he.short.2.1;omega))];rfl
 have hlen:(kJ A n.1).length<1000000000:=by
  have:=iU (e:=λi y=>if decide (y.1.1=n.1)=true then[(i:Int)] else[]) (m:=1) A 0 (λj h=>rR _ _)
  grind[kJ]
 rw[arO hlen (λi=>match A[i.toNat]? with|some y=> !gj (dU n.2.1) (aR y.1.2.1) |none=>false) (λi D=>?_),aa7]
 · unfold kJ eT uq;rw[aaw (p:=λy:aq=>decide (y.1.1=n.1)) (q:=λy:aq=>gj (dU n.2.1) (aR y.1.2.1)) A 0 ?_];simp_all
 · unfold kJ at D;rw[dG] at D;obtain⟨j,F,D⟩:=D;simp_all
theorem XT {s:List UInt8} (h:iH s=true):s.length<=80:=by grind[iH]
theorem wC {A:List aq} {n:al} {i:Int}:i∈eT A n<-> ∃j,∃h:j<A.length,i=((j:Nat):Int)/\uq n A[j]=true:=by grind[eT,dG]
theorem qC (A:List aq) (n:al):(eT A n).length<=A.length:=by
 have:=iU (e:=λi y=>if uq n y=true then[(i:Int)] else[]) (m:=1) A 0 (by grind)
 rw[Nat.one_mul] at this;exact this
def fq (A:List aq) (n:al):List Int:=(eT A n).map (· +1)
theorem amZ {A:List aq} {n:al} {i:Int} (h:i∈fq A n):1<=i/\i<=(A.length:Int):=by obtain⟨j,D,rfl⟩:=ar1.1 h;obtain⟨k,hk,rfl,_⟩:=wC.1 D;omega
theorem EY (A:List aq) (n:al):(fq A n).length<=A.length:=by unfold fq;rw[ae2];exact qC A n
theorem ao5 {R:Type} {f:Int×Int×List Int×Unit->Option ((Int×Int×List Int×Unit)⊕R)} (l:List Int) (g:Int->Int) (out:List Int->R)
  (h1: ∀k (h:k<l.length) (o:List Int),o.length=l.length->o[k]? =some l[k]->f ((l.length:Int),(k:Int),o,())=some (.inl ((l.length:Int),((k+1:Nat):Int),o.set k (g l[k]),())))
  (J: ∀o:List Int,f ((l.length:Int),(l.length:Int),o,())=some (.inr (out o))):ab f ((l.length:Int),0,l,())=some (out (l.map g)):=by
 have: ∀n k,l.length - k=n->k<=l.length->ab f (l.length,k,(l.take k).map g++l.drop k,())=some (out (l.map g)):=by
  intro n
  induction n with
  |zero=>
   intro k L hk;have e:k=l.length:=by omega
   subst e;rw[bk (J _),au0,ag5,as1]
  |succ n N=>
   intro k L hk;have D:k<l.length:=by omega
   have hlen:((l.take k).map g).length=k:=by simp_all
   have F:((l.take k).map g++l.drop k)[k]? =some l[k]:=by simp_all
   rw[aZ (h1 k D _ (by grind) F)]
   have M:((l.take k).map g++l.drop k).set k (g l[k])=(l.take (k+1)).map g++l.drop (k+1):=by rw[List.set_append_right _ _ (by omega),hlen,Nat.sub_self,ak7 D,at7 D,ag9,as2];rfl
   grind
 exact this l.length 0 rfl (ae3 _)
theorem Yu (l:List Int) (M:l.length<=1000000) (F: ∀x∈l,0<=x/\x<=1000000) {f:Int×Int×List Int×Unit->Option ((Int×Int×List Int×Unit)⊕(List Int×Unit))}
  (hf:f=I5\/f=Da):ab f ((l.length:Int),0,l,())=some (l.map (· +1),()):=by
 refine ao5 l (· +1) (λo=>(o,())) ?_ ?_
 · intro k hk o N J;have O:=F _ (ab7 hk);have L:k<o.length:=by omega
   have D:o[k]=l[k]:=by grind
   simp[D];rcases hf with rfl |rfl
   · simp (disch:=omega) only[K0,I5,D]
   · simp (disch:=omega) only[K0,Da,D]
 · intro o;rcases hf with rfl |rfl
   · simp[I5]
   · simp[Da]
abbrev bf:=List (List UInt8×List UInt8)
abbrev pt:=List sq×List dC×bf
theorem Lz (A:List aq) (hA:A.length<=360) (n:al): ∀x∈eT A n,0<=x/\x<=1000000:=by intro x D;obtain⟨j,F,rfl,_⟩:=wC.1 D;omega
theorem Yt (A:List aq) (hA:bu A) (c:pt) (hc:c.1=A.map bN) (n:al) (D:iH n.2.1=true):C' c (aO n)=some (fq A n):=by have hs:=hA.many;have F:=qC A n;unfold C';rw[hc,T8 A hA n D,aa7,Yu (eT A n) (by omega) (Lz A hs n) (.inl rfl)];rfl
theorem aqc (A:List aq) (hA:bu A) (c:pt) (hc:c.1=A.map bN) (n:al) (D:iH n.2.1=true):JJ c (aO n)=some (fq A n):=by have hs:=hA.many;have F:=qC A n;unfold JJ;rw[hc,T8 A hA n D,aa7,Yu (eT A n) (by omega) (Lz A hs n) (.inr rfl)];rfl
theorem wh {V R α σ:Type} {f:V->Option (V⊕R)} {v0:V} (l:List α) (g:σ->α->σ) (P:Nat->σ->Prop) (st:Nat->σ->V) (a:σ->R)
  (h1: ∀k (h:k<l.length) s,P k s->f (st k s)=some (.inl (st (k+1) (g s l[k])))/\P (k+1) (g s l[k]))
  (L: ∀s,P l.length s->f (st l.length s)=some (.inr (a s))) (s:σ) (hs:P 0 s) (h0:st 0 s=v0):ab f v0=some (a (l.foldl g s))/\P l.length (l.foldl g s):=by
 have: ∀n k s,l.length - k=n->k<=l.length->P k s->ab f (st k s)=some (a ((l.drop k).foldl g s))/\P l.length ((l.drop k).foldl g s):=by
  intro n
  induction n with
  |zero=>
   intro k s M hk D;have e:k=l.length:=by omega
   subst e;rw[bk (L s D)];grind
  |succ n O=>
   intro k s M hk D;have F:k<l.length:=by omega
   obtain⟨J,N⟩:=h1 k F s D;rw[ak7 F,aZ J];grind
 grind
theorem et.self {α:Type} {c:α->α->Int} (hc:et c) (x:α):c x x=0:=by have:=hc.neg x x;omega
theorem et.xN {α:Type} {c:α->α->Int} (hc:et c) {x y z:α} (h1:c x y<0) (h2:c y z<=0):c x z<0:=by
 have D:=hc.tr x y z (by omega) h2
 have F:=hc.neg x z;have J:=hc.neg x y;by_cases e:c x z=0
 · have:=hc.tr y z x h2 (by omega);omega
 · omega
theorem J7 {α:Type} {c:α->α->Int} (hc:et c): ∀{l m:List α},l.Pairwise (λx y=>c x y<0)->m.Pairwise (λx y=>c x y<0)->(∀z,z∈l<->z∈m)->l=m
 |[],[],_,_,_=>rfl
 |[],y::t,_,_,h=>absurd ((h y).2 am5) at9
 |x::s,[],_,_,h=>absurd ((h x).1 am5) at9
 |x::s,y::t,h1,h2,h=>by
  obtain⟨F,a2⟩:=List.pairwise_cons.1 h1;obtain⟨J,L⟩:=List.pairwise_cons.1 h2
  have M:x=y:=by
   rcases ai3.1 ((h x).1 am5) with e |e
   · omega
   · rcases ai3.1 ((h y).2 am5) with g |g
     · grind
     · have N:=J x e;have O:=F y g;have:=hc.neg x y;omega
  subst M
  rw[J7 hc a2 L (λz=>⟨λD=>by
   rcases ai3.1 ((h z).1 (as3 _ D)) with e |e
   · have:=F z D;rw[e] at this;have:=hc.self x;omega
   · exact e,λD=>by
   rcases ai3.1 ((h z).2 (as3 _ D)) with e |e
   · have:=J z D;rw[e] at this;have:=hc.self x;omega
   · exact e⟩)]
def cT:Want->Want->Int:=fE (λx y=>cC x.1 y.1) (λx y=>cC x.2 y.2)
theorem ke:et cT:=(Aq.on (λx:Want=>x.1)).lex (Aq.on (λx:Want=>x.2))
theorem KT {a b:Want} (h:cT a b=0):a=b:=Prod.ext (qv (oY h).1) (qv (oY h).2)
theorem Lc (a b:Want):cT a b=if cC a.1 b.1=0 then cC a.2 b.2 else cC a.1 b.1:=rfl
theorem aag {a b:List UInt8}:Op.bytesLess a b=true<->cC a b<0:=by grind[cC]
theorem Rf {a b:Want}:uh a b=true<->cT a b<0:=by
 unfold uh;rw[Lc,at3,ad0,decide_eq_true_eq,aag,aag];by_cases e:cC a.1 b.1=0
 · rw[if_pos e];have:=qv e;constructor
   · omega
   · grind
 · rw[if_neg e];constructor
   · rintro(h |h)
     · omega
     · exact absurd (apG.2 h.1) e
   · omega
def LeW (l:bf):Prop:=l.Pairwise λx y=>cT x y<=0
theorem Xi (l:bf):LeW (sf l)/\(∀z,z∈sf l<->z∈l)/\(sf l).length=l.length:=by
 have hle: ∀x y:Want,(!uh y x)=true<->cT x y<=0:=λx y=>by rw[Bool.not_eq_true',<-Bool.not_eq_true,Rf];have:=ke.neg x y;omega
 refine⟨?_,λz=>List.mem_mergeSort,List.length_mergeSort _⟩;have:=List.pairwise_mergeSort (le:=λx y:Want=> !uh y x) (λx y z h1 h2=>(hle x z).2 (ke.tr x y z ((hle x y).1 h1) ((hle y z).1 h2))) (λx y=>by rw[at3,hle,hle];have:=ke.neg x y;omega) l
 exact this.imp (λh=>(hle _ _).1 h)
def mv (l:bf):Prop:=l.Pairwise λx y=>cT x y<0
theorem Ks {z:Want}: ∀{l:bf},z∈db l<->z∈l
 |[]=>Iff.rfl
 |[x]=>Iff.rfl
 |x::y::t=>by
  show z∈(if x=y then db (y::t) else x::db (y::t))<->_
  by_cases e:x=y
  · simp_all[Ks]
  · simp_all[Ks]
theorem P2: ∀{l:bf},LeW l->mv (db l)
 |[],_=>List.Pairwise.nil
 |[x],_=>List.pairwise_singleton _ _
 |x::y::t,h=>by
  obtain⟨h1,h2⟩:=List.pairwise_cons.1 h;show mv (if x=y then db (y::t) else x::db (y::t))
  by_cases e:x=y
  · rw[if_pos e];exact P2 h2
  · rw[if_neg e];refine List.pairwise_cons.2 ⟨λz D=>?_,P2 h2⟩
    have F:cT x y<0:=by
     have:=h1 y am5;by_cases g:cT x y=0
     · exact absurd (KT g) e
     · omega
    rcases ai3.1 (Ks.1 D) with rfl |D
    · omega
    · exact ke.xN F ((List.pairwise_cons.1 h2).1 z D)
def dm (x:Want):bf->bf
 |[]=>[x]
 |y::t=>if cT y x=0 then y::t else if 0<cT y x then x::y::t else y::dm x t
theorem LV {x z:Want}: ∀{l:bf},z∈dm x l<->z=x\/z∈l
 |[]=>by show z∈[x]<->_;grind
 |y::t=>by
  show z∈(if cT y x=0 then y::t else if 0<cT y x then x::y::t else y::dm x t)<->_
  by_cases e:cT y x=0
  · rw[if_pos e,<-KT e];grind
  · rw[if_neg e];split
    · grind
    · rw[ai3,LV];constructor
      · grind
      · grind
theorem Xr {x:Want}: ∀{l:bf},mv l->mv (dm x l)
 |[],_=>List.pairwise_singleton _ _
 |y::t,h=>by
  obtain⟨h1,h2⟩:=List.pairwise_cons.1 h;show mv (if cT y x=0 then y::t else if 0<cT y x then x::y::t else y::dm x t)
  by_cases e:cT y x=0
  · grind
  · rw[if_neg e];have F:=ke.neg y x;by_cases g:0<cT y x
    · rw[if_pos g];refine List.pairwise_cons.2 ⟨λz D=>?_,h⟩;rcases ai3.1 D with rfl |D
      · omega
      · have:=h1 z D;exact ke.xN (show cT x y<0 by omega) (by omega)
    · rw[if_neg g];refine List.pairwise_cons.2 ⟨λz D=>?_,Xr h2⟩;rcases LV.1 D with rfl |D
      · omega
      · grind
theorem R3 {x:Want}: ∀(l:bf),(dm x l).length<=l.length+1
 |[]=>ab8 _
 |y::t=>by
  show(if cT y x=0 then y::t else if 0<cT y x then x::y::t else y::dm x t).length<=_
  split
  · simp
  · split
    · simp
    · have:=R3 (x:=x) t;grind
theorem QV: ∀(r l:bf),mv l->mv (r.foldl (λl x=>dm x l) l)/\(∀z,z∈r.foldl (λl x=>dm x l) l<->z∈l\/z∈r)
 |[],l,h=>⟨h,λz=>⟨.inl,λh=>h.elim id (by simp)⟩⟩
 |x::t,l,h=>by
  obtain⟨h1,h2⟩:=QV t (dm x l) (Xr h);refine⟨h1,λz=>?_⟩;show z∈t.foldl (λl x=>dm x l) (dm x l)<->_;rw[h2,LV];constructor
  · grind
  · grind
def wS (r:bf):bf:=r.foldl (λl x=>dm x l) []
theorem YF {r:bf} {z:Want}:z∈wS r<->z∈r:=by unfold wS;rw[(QV r [] List.Pairwise.nil).2];exact⟨λh=>h.elim (by simp) id,.inr⟩
theorem Kl (r:bf):mv (wS r):=(QV r [] List.Pairwise.nil).1
theorem ajW (r:bf):db (sf r)=wS r:=by obtain⟨h1,h2,_⟩:=Xi r;refine J7 ke (P2 h1) (Kl r) λz=>?_;rw[Ks,h2,YF]
theorem anj (r:bf):(wS r).length<=r.length:=by
 have: ∀(r l:bf),(r.foldl (λl x=>dm x l) l).length<=l.length+r.length:=by
  intro r
  induction r with
  |nil=>grind
  |cons x t D=>intro l;have h1:=R3 (x:=x) l;grind
 have h:=this r [];rw[as5,Nat.zero_add] at h;exact h
def AU (l:bf):Prop:= ∀w∈l,w.1.length<=20000/\w.2.length<=20000
def MA (ns:List dC):bf:=aN (λ_ (n:dC)=>aN (λ_ f=>[(n.1,f)]) n.2.2 0) ns 0
def eY (ns:List al):bf:=aN (λ_ (n:al)=>aN (λ_ f=>[(n.1,f)]) n.2.2 0) ns 0
theorem ak8 (ns:List al):MA (ns.map aO)=eY ns:=by unfold MA eY;rw[XI];rfl
theorem ZX {α β:Type} (l:List α) (g:α->β):(aN (λ_ x=>[g x]) l 0).length<=l.length:=by have:=iU (e:=λ_ x=>[g x]) (m:=1) l 0 (by simp);rw[Nat.one_mul] at this;exact this
theorem abL (f:(List dC×Int×Int×List (List UInt8)×Int×Int×List UInt8×List (List cO)×List (List UInt8)×bf×Unit)->Option ((List dC×Int×Int×List (List UInt8)×Int×Int×List UInt8×List (List cO)×List (List UInt8)×bf×Unit)⊕(List dC×Int×Int×bf×Unit))) (hf:f=J3\/f=Du) (l:List dC) (a b:Int) (n:dC) (M:n.2.2.length<=4) (acc:bf) (D:acc.length<=1000):
  ab f (l,a,b,n.2.2,(n.2.2.length:Int),0,n.1,n.2.1,n.2.2,acc,())=some (l,a,b,acc++aN (λ_ f=>[(n.1,f)]) n.2.2 0,()):=by
 refine eX n.2.2 (λ_ f=>[(n.1,f)]) 1 1000 (λk acc=>(l,a,b,n.2.2,(n.2.2.length:Int),(k:Int),n.1,n.2.1,n.2.2,acc,())) (λacc=>(l,a,b,acc,())) (by simp) ?_ ?_ acc D rfl
 · intro k hk acc D;have F:=aH k;have L: ∀{R:Type} (q:Option R),J (aa .i64 (k+1:Nat)) q=q:=λq=>aw (by omega)
   rcases hf with rfl |rfl
   · simp (disch:=omega) only[K0,J3]
   · simp (disch:=omega) only[K0,Du]
 · intro acc;rcases hf with rfl |rfl
   · simp[J3]
   · simp[Du]
theorem aq8 (l:List dC) (N:l.length<=8) (D: ∀n∈l,n.2.2.length<=4):tz l=some (MA l)/\DI l=some (MA l):=by
 have hm: ∀k (h:k<l.length),(aN (λ_ f=>[((l[k]).1,f)]) (l[k]).2.2 0).length<=4:=λk h=>an4 (ZX _ _) (D _ (ab7 h));refine⟨?_,?_⟩
 · unfold tz;rw[eX l (λ_ n=>aN (λ_ f=>[(n.1,f)]) n.2.2 0) 4 0 (λk acc=>(l,(l.length:Int),(k:Int),acc,())) (λacc=>(acc,())) hm ?_ ?_ [] (ae3 _) ?st]
   case st=>rfl
   · rfl
   · intro k hk acc F;have L:=aH k;have M: ∀{R:Type} (q:Option R),J (aa .i64 (k+1:Nat)) q=q:=λq=>aw (by omega)
     simp (disch:=omega) only[K0,P4,abL _ (.inl rfl) l l.length k l[k] (D _ (ab7 hk)) acc (by omega)]
   · simp[P4]
 · unfold DI;rw[eX l (λ_ n=>aN (λ_ f=>[(n.1,f)]) n.2.2 0) 4 0 (λk acc=>(l,(l.length:Int),(k:Int),acc,())) (λacc=>(acc,())) hm ?_ ?_ [] (ae3 _) ?st]
   case st=>rfl
   · rfl
   · intro k hk acc F;have L:=aH k;have M: ∀{R:Type} (q:Option R),J (aa .i64 (k+1:Nat)) q=q:=λq=>aw (by omega)
     simp (disch:=omega) only[K0,PX,abL _ (.inr rfl) l l.length k l[k] (D _ (ab7 hk)) acc (by omega)]
   · simp[PX]
theorem SI (ns:List al) (h:bM ns):tz (ns.map aO)=some (eY ns)/\DI (ns.map aO)=some (eY ns):=by
 rw[<-ak8];refine aq8 _ (by rw[ae2];exact h.many) λn D=>?_
 obtain⟨x,F,rfl⟩:=ar1.1 D;exact(h.dO x F).2.2.1
theorem vR (ns:List al) (h:bM ns):(eY ns).length<=32:=by have:=iU (e:=λ_ n=>aN (λ_ f=>[(n.1,f)]) n.2.2 0) (m:=4) ns 0 (λj D=>an4 (ZX _ _) (h.dO _ (ab7 D)).2.2.1);have h2:=h.many;show(aN (λ_ n=>aN (λ_ f=>[(n.1,f)]) n.2.2 0) ns 0).length<=32;omega
theorem zp {ns:List al} {w:Want}:w∈eY ns<-> ∃n∈ns,w.1=n.1/\w.2∈n.2.2:=by
 unfold eY;rw[dG];constructor
 · rintro⟨j,F,h⟩;obtain⟨i,D,h⟩:=dG.1 h;grind
 · rintro⟨n,L,h1,h2⟩;obtain⟨j,F,rfl⟩:=at2 L;obtain⟨i,D,J⟩:=at2 h2;exact⟨j,F,dG.2 ⟨i,D,by rw[J,<-h1];exact ah3.2 rfl⟩⟩
theorem dD.rY {e:bO} (h:dD e):bM e.2.2.2.2.2.2.1:=⟨h.wJ,h.dO⟩
theorem dD.qK {e:bO} (h:dD e) {f:fv} (hf:f∈e.2.2.2.2.2.2.2):bM f.2:=⟨(h.lX f hf).2.1,(h.lX f hf).2.2⟩
def pE (e:bO):bf:=eY e.2.2.2.2.2.2.1++aN (λ_ (f:fv)=>eY f.2) e.2.2.2.2.2.2.2 0
def qW (A:List aq) (R:List al):bf:=eY R++aN (λ_ (y:aq)=>pE y.1) A 0
theorem anU (e:bO) (h:dD e):(aN (λ_ (f:fv)=>eY f.2) e.2.2.2.2.2.2.2 0).length<=128:=by have:=iU (e:=λ_ f=>eY f.2) (m:=32) e.2.2.2.2.2.2.2 0 (λj D=>vR _ (h.qK (ab7 D)));have h2:=h.iW;omega
theorem aaC (e:bO) (h:dD e):(pE e).length<=160:=by have h1:=vR _ h.rY;have h2:=anU e h;unfold pE;rw[ae7];omega
theorem ZJ (A:List aq) (hA:bu A) (R:List al) (hR:bM R):(qW A R).length<=57632:=by have h1:=vR R hR;have h2:=iU (e:=λ_ y=>pE y.1) (m:=160) A 0 (λj D=>aaC _ (hA.cV _ (ab7 D)));have F:=hA.many;unfold qW;rw[ae7];omega
def ax (A:List aq) (R:List al):bf:=wS (qW A R)
theorem Ar (A:List aq) (hA:bu A) (R:List al) (hR:bM R):(ax A R).length<=57632:=an4 (anj _) (ZJ A hA R hR)
theorem asd (D:List sq) (a b:Int) (e:bO) (h:dD e) (F:List sq) (L:List dC) (acc:bf) (M:acc.length<=100000):
  ab Kr (D,a,b,e.2.2.2.2.2.2.2.map ee,((e.2.2.2.2.2.2.2.map ee).length:Int),0,acc,F,L,())=some (D,a,b,acc++aN (λ_ (f:fv)=>eY f.2) e.2.2.2.2.2.2.2 0,F,L,()):=by
 have Z:=h.iW;refine eX e.2.2.2.2.2.2.2 (λ_ f=>eY f.2) 32 100000 (λk acc=>(D,a,b,e.2.2.2.2.2.2.2.map ee,((e.2.2.2.2.2.2.2.map ee).length:Int),(k:Int),acc,F,L,())) (λacc=>(D,a,b,acc,F,L,())) (λk hk=>vR _ (h.qK (ab7 hk))) ?_ ?_ acc M rfl
 · intro k hk acc M;have N:=aH k;have O: ∀{R:Type} (q:Option R),J (aa .i64 (k+1:Nat)) q=q:=λq=>aw (by omega)
   have U:k<(e.2.2.2.2.2.2.2.map ee).length:=by grind
   have ah:=vR _ (h.qK (ab7 hk));have Y:tz (ee e.2.2.2.2.2.2.2[k]).2=some (eY (e.2.2.2.2.2.2.2[k]).2):=(SI _ (h.qK (ab7 hk))).1;simp only[Kr,ae2,dY (show(k)<(e.2.2.2.2.2.2.2.length:Int) by omega),cond_true,au U,ar7,Y,aa7,N,O]
   rw[ai (by omega)]
 · simp[Kr]
theorem ary (A:List aq) (hA:bu A) (D:List sq) (F:List dC) (acc:bf) (L:acc.length<=32):
  ab Kq (A.map bN,((A.map bN).length:Int),0,acc,D,F,())=some (acc++aN (λ_ (y:aq)=>pE y.1) A 0,D,F,()):=by
 have hs:=hA.many;refine eX A (λ_ y=>pE y.1) 160 32 (λk acc=>(A.map bN,((A.map bN).length:Int),(k:Int),acc,D,F,())) (λacc=>(acc,D,F,())) (λk hk=>aaC _ (hA.cV _ (ab7 hk))) ?_ ?_ acc L rfl
 · intro k hk acc L;have he:=hA.cV _ (ab7 hk);have U:=aH k;have Y: ∀{R:Type} (q:Option R),J (aa .i64 (k+1:Nat)) q=q:=λq=>aw (by omega)
   have O:=vR _ he.rY;have N:tz (bN A[k]).1.2.2.2.2.2.2.1=some (eY (A[k]).1.2.2.2.2.2.2.1):=(SI _ he.rY).1;have hf:(bN A[k]).1.2.2.2.2.2.2.2=(A[k]).1.2.2.2.2.2.2.2.map ee:=rfl;have Z:=asd (A.map bN) A.length k (A[k]).1 he D F (acc++eY (A[k]).1.2.2.2.2.2.2.1) (by grind)
   have M:acc.length+(eY (A[k]).1.2.2.2.2.2.2.1).length<=1000000000:=by omega
   simp only[Kq,kC hk,N,aa7,ai M];simp_all[pE]
 · simp[Kq]
theorem AU.put {x:Want} {l:bf} (h:AU l) (D:x.1.length<=20000/\x.2.length<=20000):AU (dm x l):=by
 intro w hw;rcases LV.1 hw with rfl |hw
 · omega
 · exact h w hw
def bn (A:List aq) (R:List al):pt:=(A.map bN,R.map aO,ax A R)
theorem TF (A:List aq) (hA:bu A) (R:List al) (hR:bM R):zF (A.map bN) (R.map aO)=
  if 400<A.length+(ax A R).length then some (.inr (2,())) else(nK (bn A R)).bind λfacts=>bif decide ((8000:Int)<(facts.length:Int)) then some (.inr (2,())) else some (.inl (bn A R,0,())):=by
 have hs:=hA.many;have N:=ZJ A hA R hR;have M:=Ar A hA R hR;have h1:=vR R hR;obtain⟨_,_,hlen⟩:=Xi (qW A R);have F:vV (qW A R)=some (sf (qW A R)):=by unfold vV;grind
 have D:CY (sf (qW A R))=some (ax A R):=by rw[amh _ (by omega),ajW];rfl
 have J:oR (A.map bN,R.map aO,ax A R)=some ((A.length+(ax A R).length:Nat):Int):=by simp (disch:=omega) only[K0,oR,ae2];rfl
 unfold zF;simp (disch:=omega) only[K0,(SI R hR).2,ary A hA _ _ _ h1];show(vV (qW A R)).bind _=_;have L:(eY R++aN (λ_ y=>pE y.1) A 0).length=(sf (qW A R)).length:=hlen.symm;simp (disch:=omega) only[K0,F,D,J];by_cases e:400<A.length+(ax A R).length
 · grind
 · simp (disch:=omega) only[K0];rfl
end
end Go.Proofs.YtejhifnjgoclpaaGreatDoor.Fx
