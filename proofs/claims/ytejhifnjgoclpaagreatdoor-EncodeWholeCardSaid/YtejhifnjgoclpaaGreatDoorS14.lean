/- Parts of the proofs, put together by a program. -/
import Derived.Test.YtejhifnjgoclpaaGreatDoorS13
import Derived.Laws.Cover2
set_option linter.unusedVariables false
set_option linter.unusedSimpArgs false
namespace Go.Proofs.YtejhifnjgoclpaaGreatDoor
open Go.RowKit
open Go.PlainAid (bt get_bt bt_nonneg bt_le)
theorem ajS (n:Int) (w:World):(callFunc 350 #[.int .u64 n]).run Tryz.prog w=.ok (.value (.float .f64 n.toNat)) w:=by kernel_rfl
theorem alf (b:Nat) (w:World):(callFunc 420 #[.float .f64 b]).run Tryz.prog w=.ok (.value (.int .u64 b)) w:=by kernel_rfl
theorem TC {k:FloatKind} {a b:Nat} {x y:Bool} (h:a=b) (h2:x=y):Ending.returned (.tuple #[.float k a,.bool x])=.returned (.tuple #[.float k b,.bool y]):=by rw[h,h2]
theorem alp (s:ByteArray) (w:World):
  Calls Tryz.prog 253 #[.string s] w fun e w'=>e=.returned (.tuple #[.float .f64 (r9 s),.bool (ku s)])/\w=w':=by
 have hfb:=ajS;by_cases h16:s.size=16
 · have hb:=get_bt s
   go_enter Tryz.func253,Tryz.ntmps253
   go_wp2
   go_loop [4,12] (fun d i=> ∃k:Nat,k<=16/\i=.int .i64 k/\mN (s.data.toList.take k)=true/\d=.int .u64 (nZ (s.data.toList.take k):Nat)) (fun _ i=>16 - (intOf i).toNat)
   case atStart=>exact⟨0,Nat.zero_le _,rfl,rfl,rfl⟩
   case round=>
    obtain⟨k,hk,rfl,ha,rfl⟩:=hrel;by_cases hlt:k<16
    · have h0:=bt_nonneg s k;have h1:=bt_le s k;have hv:=aiD s k (by omega) ha
      go_wp2
      · go_round
        have hd:=arL _ ‹48<=bt s k› ‹_›;have:=aal s k (by omega) ha (by omega)
        case rel=>exact⟨k+1,by omega,by go_num,this.1,by rw[this.2,hd];exact congrArg _ (by go_arith)⟩
        case measure=>simp [intOf];omega
      · go_round
        have hd:=arK _ ‹97<=bt s k› ‹_›;have:=aal s k (by omega) ha (by omega)
        case rel=>exact⟨k+1,by omega,by go_num,this.1,by rw[this.2,hd];exact congrArg _ (by go_arith)⟩
        case measure=>simp [intOf];omega
      all_goals
       go_ret2
       have hd:=aqW (bt s k) (by omega) (by omega)
       have:=apj s k (by omega) (by omega)
       exact⟨TC (by rw[this.1]) (by rw[this.2]),rfl⟩
    · go_wp2
      go_ret2
      obtain rfl:k=16:=by omega
      have:=apk s h16 ha;exact⟨TC this.1.symm (by rw[this.2]),rfl⟩
 · go_enter Tryz.func253,Tryz.ntmps253
   go_wp2
   go_ret2
   exact⟨TC (by simp [r9,ku,h16]) (by simp [ku,h16]),rfl⟩
theorem aj7 (b:Nat) (w:World) (h:b<18446744073709551616):
  Calls Tryz.prog 378 #[.float .f64 b] w fun e w'=>e=.returned (.bool (decide (9223372036854775808<=b)))/\w=w':=by
 have htb:=alf
 go_enter Tryz.func378,Tryz.ntmps378
 go_wp2
 go_ret
 refine⟨aoF ?_,rfl⟩;rw[Bool.eq_iff_iff];simp only[decide_eq_true_eq]
 go_arith
theorem we (b:Nat) (v:Bool) (h:nan b=v):(FloatKind.f64.format.order b b !=some Ordering.eq)=v:=by
 show(Ieee.double.order b b !=some Ordering.eq)=v;cases v
 · rw[Rq b b h h];simp [compare,compareOfLessAndEq]
 · rw[Rp b b (.inl h)];rfl
end Go.Proofs.YtejhifnjgoclpaaGreatDoor
namespace Go.Proofs.YtejhifnjgoclpaaGreatDoor
open Go.RowKit
theorem n5 (x y:Nat) (D:nan x=false) (F:nan y=false) (v:Bool) (h:decide (key x<key y)=v):(FloatKind.f64.format.order x y==some Ordering.lt)=v:=by
 show(Ieee.double.order x y==some Ordering.lt)=v;rw[Rq x y D F,<-h];simp only[compare,compareOfLessAndEq];by_cases h1:key x<key y
 · simp [h1]
 · by_cases h2:key x=key y
   · simp [h2]
   · simp [h1,h2]
theorem ub (x y:Nat) (D:nan x=false) (F:nan y=false) (v:Bool) (h:decide (key y<key x)=v):(FloatKind.f64.format.order x y==some Ordering.gt)=v:=by
 show(Ieee.double.order x y==some Ordering.gt)=v;rw[Rq x y D F,<-h];simp only[compare,compareOfLessAndEq];by_cases h1:key x<key y
 · have: ¬key y<key x:=by omega
   simp [h1,this]
 · by_cases h2:key x=key y
   · simp [h2]
   · have:key y<key x:=by omega
     simp [h1,h2,this]
theorem k1:nan 18442240474082181119=false/\key 18442240474082181119= -9218868437227405311:=by decide+kernel
theorem k2:nan 0=false/\key 0=0:=by decide+kernel
theorem k3:nan 9218868437227405311=false/\key 9218868437227405311=9218868437227405311:=by decide+kernel
theorem XR (b:Nat) (v:Bool) (w:World) (h:b<18446744073709551616) (D:Hid (decide (9223372036854775808<=b)=v)):
  Calls Tryz.prog 378 #[.float .f64 b] w fun e w'=>e=.returned (.bool v)/\w=w':=by
 have:=aj7 b w h
 rwa [D.out] at this
set_option maxHeartbeats 800000 in
theorem apb (b:Nat) (w:World) (h:b<18446744073709551616):
  Calls Tryz.prog 297 #[.float .f64 b] w fun e w'=>e=.returned (.int .i64 (fu b:Nat))/\w=w':=by
 have hk:=ab6 b h;rcases Q4 b h with⟨hkd,hn,hb⟩ |⟨hkd,hn,hb⟩ |⟨hkd,hn,hb⟩ |⟨hkd,hn,hb⟩ |⟨hkd,hn,hb⟩ |⟨hkd,hn,hb⟩ |⟨hkd,hn,hb⟩
 · have ho:=we b _ hn;have HK:=Lib.hid hkd;clear hkd hn hb hk
   go_enter Tryz.func297,Tryz.ntmps297
   go_wp2
   go_ret
   exact⟨mK (by rw[HK.out];rfl),rfl⟩
 · have ho:=we b _ hn;have HK:=Lib.hid hkd;rw[if_pos (by omega)] at hk
   have c0:=n5 b _ hn k1.1 true (by rw[k1.2];exact decide_eq_true (by rw[hk];omega))
   clear hkd hn hb hk
   go_enter Tryz.func297,Tryz.ntmps297
   go_wp2
   go_ret
   exact⟨mK (by rw[HK.out];rfl),rfl⟩
 · have ho:=we b _ hn;have HK:=Lib.hid hkd;rw[if_pos (by omega)] at hk
   have c0:=n5 b _ hn k1.1 false (by rw[k1.2];exact decide_eq_false (by rw[hk];omega))
   have c1:=n5 b _ hn k2.1 true (by rw[k2.2];exact decide_eq_true (by rw[hk];omega))
   clear hkd hn hb hk
   go_enter Tryz.func297,Tryz.ntmps297
   go_wp2
   go_ret
   exact⟨mK (by rw[HK.out];rfl),rfl⟩
 · have ho:=we b _ hn;have HK:=Lib.hid hkd;rw[if_pos (by omega)] at hk
   have c0:=n5 b _ hn k1.1 false (by rw[k1.2];exact decide_eq_false (by rw[hk];omega))
   have c1:=n5 b _ hn k2.1 false (by rw[k2.2];exact decide_eq_false (by rw[hk];omega))
   have c2:=ub b _ hn k3.1 false (by rw[k3.2];exact decide_eq_false (by rw[hk];omega))
   have c3:=ub b _ hn k2.1 false (by rw[k2.2];exact decide_eq_false (by rw[hk];omega))
   have HG:Hid (decide (9223372036854775808<=b)=true):=Lib.hid (decide_eq_true (by omega))
   clear hkd hn hb hk
   go_enter Tryz.func297,Tryz.ntmps297
   go_wp2_with (go_at_call 378;refine(XR b _ _ h HG).mono ?_;rintro e w' ⟨rfl,rfl⟩)
   go_ret
   exact⟨mK (by rw[HK.out];rfl),rfl⟩
 · have ho:=we b _ hn;have HK:=Lib.hid hkd;rw[if_neg (by omega)] at hk
   have c0:=n5 b _ hn k1.1 false (by rw[k1.2];exact decide_eq_false (by rw[hk];omega))
   have c1:=n5 b _ hn k2.1 false (by rw[k2.2];exact decide_eq_false (by rw[hk];omega))
   have c2:=ub b _ hn k3.1 false (by rw[k3.2];exact decide_eq_false (by rw[hk];omega))
   have c3:=ub b _ hn k2.1 false (by rw[k2.2];exact decide_eq_false (by rw[hk];omega))
   have HG:Hid (decide (9223372036854775808<=b)=false):=Lib.hid (decide_eq_false (by omega))
   clear hkd hn hb hk
   go_enter Tryz.func297,Tryz.ntmps297
   go_wp2_with (go_at_call 378;refine(XR b _ _ h HG).mono ?_;rintro e w' ⟨rfl,rfl⟩)
   go_ret
   exact⟨mK (by rw[HK.out];rfl),rfl⟩
 · have ho:=we b _ hn;have HK:=Lib.hid hkd;rw[if_neg (by omega)] at hk
   have c0:=n5 b _ hn k1.1 false (by rw[k1.2];exact decide_eq_false (by rw[hk];omega))
   have c1:=n5 b _ hn k2.1 false (by rw[k2.2];exact decide_eq_false (by rw[hk];omega))
   have c2:=ub b _ hn k3.1 false (by rw[k3.2];exact decide_eq_false (by rw[hk];omega))
   have c3:=ub b _ hn k2.1 true (by rw[k2.2];exact decide_eq_true (by rw[hk];omega))
   clear hkd hn hb hk
   go_enter Tryz.func297,Tryz.ntmps297
   go_wp2
   go_ret
   exact⟨mK (by rw[HK.out];rfl),rfl⟩
 · have ho:=we b _ hn;have HK:=Lib.hid hkd;rw[if_neg (by omega)] at hk
   have c0:=n5 b _ hn k1.1 false (by rw[k1.2];exact decide_eq_false (by rw[hk];omega))
   have c1:=n5 b _ hn k2.1 false (by rw[k2.2];exact decide_eq_false (by rw[hk];omega))
   have c2:=ub b _ hn k3.1 true (by rw[k3.2];exact decide_eq_true (by rw[hk];omega))
   clear hkd hn hb hk
   go_enter Tryz.func297,Tryz.ntmps297
   go_wp2
   go_ret
   exact⟨mK (by rw[HK.out];rfl),rfl⟩
end Go.Proofs.YtejhifnjgoclpaaGreatDoor
namespace Go.Proofs.YtejhifnjgoclpaaGreatDoor
open Go.RowKit
theorem Ay (b k:Nat) (w:World) (h:b<18446744073709551616) (hk:Hid (fu b=k)):
  Calls Tryz.prog 297 #[.float .f64 b] w fun e w'=>e=.returned (.int .i64 k)/\w=w':=by
 have:=apb b w h
 rwa [hk.out] at this
theorem abi (b:Nat) (h:b<18446744073709551616):fu b<=6:=by rcases Q4 b h with⟨F,J,D⟩ |⟨F,J,D⟩ |⟨F,J,D⟩ |⟨F,J,D⟩ |⟨F,J,D⟩ |⟨F,J,D⟩ |⟨F,J,D⟩<;>omega
theorem YZ (b:Nat) (h:b<18446744073709551616):
  (fu b=0/\nan b=true/\dQ b=0)\/
  (nan b=false/\0<fu b/\
   ((fu b=1/\dQ b=4503599627370495/\key b= -9218868437227405312)\/
    (fu b=2/\dQ b+b=18446744073709551615/\key b=9223372036854775808 - b/\9223372036854775808<b/\b<18442240474082181120)\/
    (fu b=3/\dQ b=9223372036854775807/\key b=0)\/
    (fu b=4/\dQ b=9223372036854775808/\key b=0)\/
    (fu b=5/\dQ b=b+9223372036854775808/\key b=b/\0<b/\b<9218868437227405312)\/
    (fu b=6/\dQ b=18442240474082181120/\key b=9218868437227405312))):=by
 have r:=aa9 b h;have k:=ab6 b h;rcases Q4 b h with⟨h1,D,g1⟩ |⟨h1,D,g1⟩ |⟨h1,D,g1⟩ |⟨h1,D,g1⟩ |⟨h1,D,g1⟩ |⟨h1,D,g1⟩ |⟨h1,D,g1⟩
 · left;rw[D] at r;exact⟨h1,D,r⟩
 · rw[D,if_neg (by decide),if_pos (by omega)] at r
   rw[if_pos (by omega)] at k
   exact .inr ⟨D,by omega,.inl ⟨h1,by omega,by omega⟩⟩
 · rw[D,if_neg (by decide),if_pos (by omega)] at r
   rw[if_pos (by omega)] at k
   exact .inr ⟨D,by omega,.inr (.inl ⟨h1,by omega,by omega,g1.1,g1.2⟩)⟩
 · rw[D,if_neg (by decide),if_pos (by omega)] at r
   rw[if_pos (by omega)] at k
   exact .inr ⟨D,by omega,.inr (.inr (.inl ⟨h1,by omega,by omega⟩))⟩
 · rw[D,if_neg (by decide),if_neg (by omega)] at r
   rw[if_neg (by omega)] at k
   exact .inr ⟨D,by omega,.inr (.inr (.inr (.inl ⟨h1,by omega,by omega⟩)))⟩
 · rw[D,if_neg (by decide),if_neg (by omega)] at r
   rw[if_neg (by omega)] at k
   exact .inr ⟨D,by omega,.inr (.inr (.inr (.inr (.inl ⟨h1,by omega,by omega,g1.1,g1.2⟩))))⟩
 · rw[D,if_neg (by decide),if_neg (by omega)] at r
   rw[if_neg (by omega)] at k
   exact .inr ⟨D,by omega,.inr (.inr (.inr (.inr (.inr (⟨h1,by omega,by omega⟩)))))⟩
theorem akX (a b:Nat) (J:a<18446744073709551616) (M:b<18446744073709551616):
  (fu a<fu b->dQ a<dQ b)/\(fu b<fu a->dQ b<dQ a)/\
  (fu a=fu b->(nan a=true/\nan b=true/\dQ a=dQ b)\/
   (nan a=false/\nan b=false/\(key a<key b<->dQ a<dQ b)/\(key b<key a<->dQ b<dQ a))):=by
 rcases YZ a J with⟨h1,D,N⟩ |⟨D,h1,g1⟩<;>rcases YZ b M with⟨h2,F,O⟩ |⟨F,h2,g2⟩
 · exact⟨fun h=>by omega,fun h=>by omega,fun h=>.inl ⟨D,F,by omega⟩⟩
 · exact⟨fun h=>by omega,fun h=>by omega,fun h=>by omega⟩
 · exact⟨fun h=>by omega,fun h=>by omega,fun h=>by omega⟩
 · exact⟨fun h=>by omega,fun h=>by omega,fun h=>.inr ⟨D,F,by omega,by omega⟩⟩
theorem abB {a b:Nat} (h:dQ a<dQ b):jR a b= -1:=by unfold jR;rw[if_pos h]
theorem abC {a b:Nat} (h:dQ b<dQ a):jR a b=1:=by unfold jR;rw[if_neg (by omega),if_pos h]
theorem abD {a b:Nat} (h:dQ a=dQ b):jR a b=0:=by unfold jR;rw[if_neg (by omega),if_neg (by omega)]
set_option maxHeartbeats 800000 in
theorem Ep (a b:Nat) (w:World) (ha:a<18446744073709551616) (hb:b<18446744073709551616):
  Calls Tryz.prog 191 #[.float .f64 a,.float .f64 b] w fun e w'=>e=.returned (.int .i64 (jR a b))/\w=w':=by
 obtain⟨m1,m2,m3⟩:=akX a b ha hb;have ka:=abi a ha;have kb:=abi b hb;generalize hk:fu a=k at*;generalize hn:fu b=n at*;have HK:=Lib.hid hk;have HN:=Lib.hid hn;clear hk hn;by_cases h1:k<n
 · have HC:=Lib.hid (abB (m1 h1));clear m1 m2 m3
   go_enter Tryz.func191,Tryz.ntmps191
   go_wp2_with fail
   refine(Ay a k _ ha HK).mono ?_;rintro e w' ⟨rfl,rfl⟩
   go_wp2_with fail
   refine(Ay b n _ hb HN).mono ?_;rintro e w' ⟨rfl,rfl⟩
   go_wp2_with fail
   go_ret
   exact⟨mK (by rw[HC.out]),rfl⟩
 · by_cases h2:n<k
   · have HC:=Lib.hid (abC (m2 h2));clear m1 m2 m3
     go_enter Tryz.func191,Tryz.ntmps191
     go_wp2_with fail
     refine(Ay a k _ ha HK).mono ?_;rintro e w' ⟨rfl,rfl⟩
     go_wp2_with fail
     refine(Ay b n _ hb HN).mono ?_;rintro e w' ⟨rfl,rfl⟩
     go_wp2_with fail
     go_ret
     exact⟨mK (by rw[HC.out]),rfl⟩
   · obtain rfl:k=n:=by omega
     have m3:=m3 rfl;clear m1 m2
     obtain⟨x,y,z,hx,hy,HC⟩: ∃(x y:Bool) (z:Int),(FloatKind.f64.format.order a b==some Ordering.lt)=x/\(FloatKind.f64.format.order a b==some Ordering.gt)=y/\Hid (jR a b=if x then-1 else if y then 1 else 0):=by
      rcases m3 with⟨n1,n2,r⟩ |⟨n1,n2,r1,r2⟩
      · refine⟨false,false,0,?_,?_,abD r⟩
        · show(Ieee.double.order a b==_)=_;rw[Rp a b (.inl n1)];rfl
        · show(Ieee.double.order a b==_)=_;rw[Rp a b (.inl n1)];rfl
      · refine⟨_,_,0,n5 a b n1 n2 _ rfl,ub a b n1 n2 _ rfl,?_⟩;by_cases c1:key a<key b
        · rw[decide_eq_true c1];exact abB (r1.1 c1)
        · rw[decide_eq_false c1];by_cases c2:key b<key a
          · rw[decide_eq_true c2];exact abC (r2.1 c2)
          · rw[decide_eq_false c2];exact abD (by omega)
     clear m3;cases x<;>cases y
     all_goals
      go_enter Tryz.func191,Tryz.ntmps191
      go_wp2_with fail
      refine(Ay a k _ ha HK).mono ?_;rintro e w' ⟨rfl,rfl⟩
      go_wp2_with fail
      refine(Ay b k _ hb HN).mono ?_;rintro e w' ⟨rfl,rfl⟩
      go_wp2_with fail
      go_ret
      exact⟨mK (by rw[HC.out];rfl),rfl⟩
end Go.Proofs.YtejhifnjgoclpaaGreatDoor
