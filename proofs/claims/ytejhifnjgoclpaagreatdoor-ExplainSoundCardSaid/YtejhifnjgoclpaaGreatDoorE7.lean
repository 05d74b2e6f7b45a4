/- Parts of the proofs, put together by a program. -/
import Derived.Test.YtejhifnjgoclpaaGreatDoorE6
import Derived.Laws.ShiftsVar
import Derived.Laws.BytesArg
import Derived.Laws.FloatBits
import Derived.Laws.Cover2
import Derived.Test.YtejhifnjgoclpaaGreatDoorProg
import Derived.OwnWalk
set_option linter.unusedVariables false
set_option linter.unusedSimpArgs false
open Nat renaming zero_le->ae3
open Int renaming toNat_natCast->ae9
open Bool renaming false_eq_true->af7
namespace Go.Proofs.YtejhifnjgoclpaaGreatDoor
open Go.RowKit
open Go.PlainAid (bt get_bt bt_nonneg bt_le)
theorem ass (D:World) (n:Int):(convert 472 9 (.slice (some ⟨D.heap.size,0,none⟩) 1 1)).run Tryz.prog (D.alloc (.cells #[.int .u8 n] 5))=.ok (.string ⟨#[UInt8.ofNat n.toNat]⟩) (D.alloc (.cells #[.int .u8 n] 5)):=by
 refine run_convert_bytes_arg _ 472 5 Tryz.underlying472 Tryz.underlying5 _ 0 1 1 [n] rfl (λi F=>?_) 9 Tryz.underlying9;obtain rfl:i=0:=by omega
 simp [go_sem]
theorem anJ (n k:Nat) (F:n<18446744073709551616) (hk:k<16): ∃d:Nat,bits .and .u64 ((n:Int)/2 ^(60 - 4*k)) 15=(d:Int)/\d<16/\Hid (qR n (k+1)=qR n k++[wL d]):=by
 have e:(2:Nat) ^(60 - 4*k)=16 ^(15 - k):=by rw[show(16:Nat)=2 ^4 from rfl,<-Nat.pow_mul];congr 1;omega
 refine⟨n/16 ^(15 - k)%16,?_,Nat.mod_lt _ (by decide),al5 n k⟩
 have D:((n:Int)/2 ^(60 - 4*k))=((n/16 ^(15 - k):Nat):Int):=by rw[<-e];simp
 have hle:n/16 ^(15 - k)<=n:=Nat.div_le_self _ _;rw[D];generalize n/16 ^(15 - k)=m at*;rw[u64_and _ _ (by omega) (by omega) (by omega) (by omega),ae9]
 exact congrArg _ (Nat.and_two_pow_sub_one_eq_mod m 4)
theorem ZF (l:List UInt8) (c d:UInt8) (r:List UInt8) (h:r=l++[d]) (hc:c=d):Value.string (⟨l.toArray⟩++⟨#[c]⟩)=Value.string ⟨r.toArray⟩:=by subst hc h;congr 1
theorem aqI (n:Nat) (w:World) (hn:n<18446744073709551616):
  Calls Tryz.prog 402 #[.int .u64 n] w λe w'=>e=.returned (.string ⟨(T9 n).toArray⟩)/\Below w.heap.size w w':=by
 have kc:=ass
 go_enter Tryz.func402,Tryz.ntmps402
 go_wp2
 go_loopw [3,4] (λs i wr=> ∃k:Nat,k<=16/\i=.int .i64 (60 - 4*k)/\s=.string ⟨(qR n k).toArray⟩/\Below w.heap.size w wr) (λ_ i _=>(64+intOf i).toNat)
 case atStart=>exact⟨0,ae3 _,rfl,rfl,Below.refl _ _⟩
 case round=>
  obtain⟨k,hk,rfl,rfl,hb⟩:=hrel;have hl:(qR n k).length<=16:=by rw[ajR];exact hk
  by_cases hlt:k<16
  · obtain⟨d,hd,hd16,HD⟩:=anJ n k hn hlt
    go_wp2
    · go_roundw
      case rel=>exact⟨k+1,by omega,by go_num,ZF _ _ _ _ HD (al6 d (by omega)),hb.alloc hb.size _⟩
      case measure=>simp [intOf];omega
    · go_roundw
      case rel=>exact⟨k+1,by omega,by go_num,ZF _ _ _ _ HD (akK d (by omega)),hb.alloc hb.size _⟩
      case measure=>simp [intOf];omega
  · go_wp2
    go_ret
    obtain rfl:k=16:=by omega
    exact⟨rfl,hb⟩
end Go.Proofs.YtejhifnjgoclpaaGreatDoor
namespace Go.Proofs.YtejhifnjgoclpaaGreatDoor
open Ieee
def cB (x:Nat):Nat:=x %9223372036854775808
def fK (x:Nat):Bool:=x/9223372036854775808 %2==1
def nan (x:Nat):Bool:=decide (9218868437227405312<cB x)
def key (x:Nat):Int:=if fK x then-(cB x:Int) else(cB x:Int)
def ic (r:Nat):Nat:=if r<4503599627370496 then r else(4503599627370496+r %4503599627370496)*2 ^(r/4503599627370496 - 1)
theorem XM (r:Nat):ic r<ic (r+1):=by
 unfold ic;by_cases h1:r+1<4503599627370496
 · rw[if_pos (by omega),if_pos h1];omega
 · by_cases h2:r<4503599627370496
   · have e:r=4503599627370495:=by omega
     subst e;decide
   · rw[if_neg h2,if_neg h1];by_cases J:r %4503599627370496=4503599627370495
     · have D:(r+1)%4503599627370496=0:=by omega
       have F:(r+1)/4503599627370496 - 1=(r/4503599627370496 - 1)+1:=by omega
       rw[J,D,F,Nat.pow_succ];have:0<2 ^(r/4503599627370496 - 1):=Nat.pow_pos (by decide)
       generalize 2 ^(r/4503599627370496 - 1)=p at*;omega
     · have D:(r+1)%4503599627370496=r %4503599627370496+1:=by omega
       have F:(r+1)/4503599627370496=r/4503599627370496:=by omega
       rw[D,F];exact(Nat.mul_lt_mul_right (Nat.pow_pos (by decide))).2 (by omega)
theorem ak2 {r s:Nat} (h:r<s):ic r<ic s:=by
 induction s with
 |zero=>omega
 |succ s D=>
  by_cases e:r=s
  · subst e;exact XM r
  · exact Nat.lt_trans (D (by omega)) (XM s)
theorem KQ:ic 0=0:=by decide
def Tv (x:Nat):Int:=if fK x then-(ic (cB x):Int) else(ic (cB x):Int)
theorem aiG (x y:Nat):compare (Tv x) (Tv y)=compare (key x) (key y):=by
 have h1: ∀a b,a<b->ic a<ic b:=λa b h=>ak2 h
 have m:ic (cB x)<ic (cB y)<->cB x<cB y:=by
  constructor
  · intro h;apply Classical.byContradiction;intro D;by_cases e:cB x=cB y
    · rw[e] at h;omega
    · have:=h1 (cB y) (cB x) (by omega);omega
  · exact h1 _ _
 have m2:ic (cB y)<ic (cB x)<->cB y<cB x:=by
  constructor
  · intro h;apply Classical.byContradiction;intro D;by_cases e:cB x=cB y
    · rw[e] at h;omega
    · have:=h1 (cB x) (cB y) (by omega);omega
  · exact h1 _ _
 have F:ic (cB x)=0<->cB x=0:=by
  constructor
  · intro h;by_cases e:0<cB x
    · have:=h1 0 _ e;rw[KQ] at this;omega
    · omega
  · intro h;rw[h];exact KQ
 have z2:ic (cB y)=0<->cB y=0:=by
  constructor
  · intro h;by_cases e:0<cB y
    · have:=h1 0 _ e;rw[KQ] at this;omega
    · omega
  · intro h;rw[h];exact KQ
 unfold Tv key;generalize ic (cB x)=a at*;generalize ic (cB y)=b at*;simp only[compare,compareOfLessAndEq];cases fK x<;>cases fK y<;>simp only[af7,if_true,if_false]<;>(repeat' split)<;>first |rfl |omega
theorem ajg (a b:Int) (c:Nat) (h:0<c):compare (a*c) (b*c)=compare a b:=by
 have D:a*c<b*c<->a<b:=Int.mul_lt_mul_right (by omega)
 have F:a*c=b*c<->a=b:=Int.mul_eq_mul_right_iff (by omega)
 simp only[compare,compareOfLessAndEq,D,F]
theorem WZ (s:Bool) (m e c:Nat):signed s m e*((2 ^c:Nat):Int)=if s then-((m*2 ^(e+c):Nat):Int) else((m*2 ^(e+c):Nat):Int):=by
 unfold signed;rw[Nat.shiftLeft_eq,Nat.pow_add,<-Nat.mul_assoc];cases s
 · simp only[af7,if_false];rw[<-Int.natCast_mul]
 · simp only[if_true];rw[Int.neg_mul,<-Int.natCast_mul]
theorem Rk (x:Nat):double.read x=
 if cB x<4503599627370496 then .number (fK x) (cB x) (-1074)
 else if cB x<9218868437227405312 then .number (fK x) (4503599627370496+cB x %4503599627370496) (-1074+(cB x/4503599627370496 - 1:Nat))
 else if cB x=9218868437227405312 then .infinity (fK x) else .nan (fK x) (cB x - 9218868437227405312):=rfl
theorem Kv (x:Nat) (h:cB x<9218868437227405312): ∃m e:Nat,double.read x=.number (fK x) m (-1074+(e:Int))/\m*2 ^e=ic (cB x):=by
 rw[Rk];by_cases h1:cB x<4503599627370496
 · rw[if_pos h1];exact⟨cB x,0,rfl,by unfold ic;rw[if_pos h1];simp⟩
 · rw[if_neg h1,if_pos h];exact⟨_,_,rfl,by unfold ic;rw[if_neg h1]⟩
theorem ajH (x y:Nat) (N:cB x<9218868437227405312) (O:cB y<9218868437227405312):double.order x y=some (compare (key x) (key y)):=by
 obtain⟨m,e,h1,h2⟩:=Kv x N;obtain⟨n,g,L,M⟩:=Kv y O;unfold Format.order;rw[h1,L,<-aiG];show some (compare _ _)=_;congr 1;have D:min (-1074+(e:Int)) (-1074+(g:Int))= -1074+((min e g:Nat):Int):=by omega
 rw[D];have F:(-1074+(e:Int) - (-1074+((min e g:Nat):Int))).toNat=e - min e g:=by omega
 have J:(-1074+(g:Int) - (-1074+((min e g:Nat):Int))).toNat=g - min e g:=by omega
 rw[F,J,<-ajg _ _ (2 ^min e g) (Nat.pow_pos (by decide)),WZ,WZ]
 rw[show e - min e g+min e g=e from by omega,show g - min e g+min e g=g from by omega,h2,M]
 rfl
theorem Rp (x y:Nat) (h:nan x=true\/nan y=true):double.order x y=none:=by
 have D: ∀z,nan z=true-> ∃s t,double.read z=.nan s t:=by
  intro z F;have F:=of_decide_eq_true F;rw[Rk,if_neg (by omega),if_neg (by omega),if_neg (by omega)]
  exact⟨_,_,rfl⟩
 unfold Format.order;rcases h with h |h
 · obtain⟨s,t,e⟩:=D x h;rw[e];cases double.read y<;>rfl
 · obtain⟨s,t,e⟩:=D y h;rw[e];cases double.read x<;>rfl
theorem RW (x:Nat) (h:cB x=9218868437227405312):double.read x=.infinity (fK x):=by rw[Rk,if_neg (by omega),if_neg (by omega),if_pos h]
theorem Rq (x y:Nat) (F:nan x=false) (J:nan y=false):double.order x y=some (compare (key x) (key y)):=by
 have F:=of_decide_eq_false F;have J:=of_decide_eq_false J;by_cases L:cB x<9218868437227405312
 · by_cases D:cB y<9218868437227405312
   · exact ajH x y L D
   · obtain⟨m,e,h1,_⟩:=Kv x L;have h2:=RW y (by omega)
     unfold Format.order;rw[h1,h2];show some (if fK y then Ordering.gt else Ordering.lt)=_
     unfold key;simp only[compare,compareOfLessAndEq];cases fK x<;>cases fK y<;>simp only[af7,if_true,if_false]<;>(repeat' split)<;>first |rfl |omega
 · have h1:=RW x (by omega)
   by_cases D:cB y<9218868437227405312
   · obtain⟨m,e,h2,_⟩:=Kv y D;unfold Format.order;rw[h1,h2];show some (if fK x then Ordering.lt else Ordering.gt)=_
     unfold key;simp only[compare,compareOfLessAndEq];cases fK x<;>cases fK y<;>simp only[af7,if_true,if_false]<;>(repeat' split)<;>first |rfl |omega
   · have h2:=RW y (by omega)
     unfold Format.order;rw[h1,h2];show some (compare (fK y).toNat (fK x).toNat)=_;unfold key;simp only[compare,compareOfLessAndEq];cases fK x<;>cases fK y<;>simp only[af7,if_true,if_false,Bool.toNat_true,Bool.toNat_false]<;>(repeat' split)<;>first |rfl |omega
end Go.Proofs.YtejhifnjgoclpaaGreatDoor
namespace Go.Proofs.YtejhifnjgoclpaaGreatDoor
theorem Tz (b:Nat) (h:b<18446744073709551616):fK b=decide (9223372036854775808<=b):=by unfold fK;rw[Bool.eq_iff_iff];simp only[beq_iff_eq,decide_eq_true_eq];omega
theorem aa5 (b:Nat) (h:b<18446744073709551616):cB b=if 9223372036854775808<=b then b - 9223372036854775808 else b:=by unfold cB;split<;>omega
def fu (b:Nat):Nat:=
 if nan b then 0 else if cB b=9218868437227405312 then(if fK b then 1 else 6) else if cB b=0 then(if fK b then 3 else 4) else if fK b then 2 else 5
def dQ (b:Nat):Nat:=if nan b then 0 else if fK b then 18446744073709551615 - b else b+9223372036854775808
def jR (a b:Nat):Int:=if dQ a<dQ b then-1 else if dQ b<dQ a then 1 else 0
theorem Q4 (b:Nat) (h:b<18446744073709551616):
  (fu b=0/\nan b=true/\(9218868437227405312<b/\b<9223372036854775808\/18442240474082181120<b))\/
  (fu b=1/\nan b=false/\b=18442240474082181120)\/
  (fu b=2/\nan b=false/\9223372036854775808<b/\b<18442240474082181120)\/
  (fu b=3/\nan b=false/\b=9223372036854775808)\/
  (fu b=4/\nan b=false/\b=0)\/
  (fu b=5/\nan b=false/\0<b/\b<9218868437227405312)\/
  (fu b=6/\nan b=false/\b=9218868437227405312):=by
 have hs:=Tz b h;have J:=aa5 b h;unfold fu nan;rw[hs];by_cases h1:9223372036854775808<=b
 · rw[if_pos h1] at J;rw[J,decide_eq_true h1];by_cases h2:9218868437227405312<b - 9223372036854775808
   · left;simp only[decide_eq_true h2];exact⟨if_pos trivial,trivial,.inr (by omega)⟩
   · simp only[decide_eq_false h2];by_cases F:b - 9223372036854775808=9218868437227405312
     · right;left;simp [F];omega
     · by_cases D:b - 9223372036854775808=0
       · right;right;right;left;simp [D];omega
       · right;right;left;simp [F,D];omega
 · rw[if_neg h1] at J;rw[J,decide_eq_false h1];by_cases h2:9218868437227405312<b
   · left;simp only[decide_eq_true h2];exact⟨if_pos trivial,trivial,.inl (by omega)⟩
   · simp only[decide_eq_false h2];by_cases F:b=9218868437227405312
     · right;right;right;right;right;right;simp [F]
     · by_cases D:b=0
       · right;right;right;right;left;simp [D]
       · right;right;right;right;right;left;simp [D];omega
theorem aa9 (b:Nat) (h:b<18446744073709551616):dQ b=if nan b then 0 else if 9223372036854775808<=b then 18446744073709551615 - b else b+9223372036854775808:=by unfold dQ;rw[Tz b h];simp only[decide_eq_true_eq]
theorem ab6 (b:Nat) (h:b<18446744073709551616):key b=if 9223372036854775808<=b then-((b:Int) - 9223372036854775808) else(b:Int):=by
 unfold key;rw[Tz b h,aa5 b h];by_cases h1:9223372036854775808<=b
 · simp only[h1,decide_true,if_true];omega
 · simp only[h1,decide_false,if_false,af7]
end Go.Proofs.YtejhifnjgoclpaaGreatDoor
namespace Go.Proofs.YtejhifnjgoclpaaGreatDoor
open Go.RowKit
open Go.PlainAid (bt get_bt bt_nonneg bt_le)
theorem ajS (n:Int) (w:World):(callFunc 350 #[.int .u64 n]).run Tryz.prog w=.ok (.value (.float .f64 n.toNat)) w:=by kernel_rfl
theorem alf (b:Nat) (w:World):(callFunc 420 #[.float .f64 b]).run Tryz.prog w=.ok (.value (.int .u64 b)) w:=by kernel_rfl
theorem TC {k:FloatKind} {a b:Nat} {x y:Bool} (h:a=b) (h2:x=y):Ending.returned (.tuple #[.float k a,.bool x])=.returned (.tuple #[.float k b,.bool y]):=by rw[h,h2]
theorem alp (s:ByteArray) (w:World):
  Calls Tryz.prog 253 #[.string s] w λe w'=>e=.returned (.tuple #[.float .f64 (r9 s),.bool (ku s)])/\w=w':=by
 have hfb:=ajS;by_cases h16:s.size=16
 · have hb:=get_bt s
   go_enter Tryz.func253,Tryz.ntmps253
   go_wp2
   go_loop [4,12] (λd i=> ∃k:Nat,k<=16/\i=.int .i64 k/\mN (s.data.toList.take k)=true/\d=.int .u64 (nZ (s.data.toList.take k):Nat)) (λ_ i=>16 - (intOf i).toNat)
   case atStart=>exact⟨0,ae3 _,rfl,rfl,rfl⟩
   case round=>
    obtain⟨k,hk,rfl,ha,rfl⟩:=hrel;by_cases hlt:k<16
    · have h0:=bt_nonneg s k;have h1:=bt_le s k;have hv:=aiD s k (by omega) ha
      go_wp2
      · go_round
        have hd:=arL _ ‹48<=bt s k› ‹_›;have:=aal s k (by omega) ha (by omega)
        case rel=>exact⟨k+1,by omega,by go_num,this.1,by rw[this.2,hd];exact congrArg _ (by go_arith)⟩
        case measure=>simp [intOf];omega
      · go_round
        have hd:=arK _ ‹97<=bt s k› ‹_›;have:=aal s k (by omega) ha (by omega)
        case rel=>exact⟨k+1,by omega,by go_num,this.1,by rw[this.2,hd];exact congrArg _ (by go_arith)⟩
        case measure=>simp [intOf];omega
      all_goals
       go_ret2
       have hd:=aqW (bt s k) (by omega) (by omega)
       have:=apj s k (by omega) (by omega)
       exact⟨TC (by rw[this.1]) (by rw[this.2]),rfl⟩
    · go_wp2
      go_ret2
      obtain rfl:k=16:=by omega
      have:=apk s h16 ha;exact⟨TC this.1.symm (by rw[this.2]),rfl⟩
 · go_enter Tryz.func253,Tryz.ntmps253
   go_wp2
   go_ret2
   exact⟨TC (by simp [r9,ku,h16]) (by simp [ku,h16]),rfl⟩
theorem aj7 (b:Nat) (w:World) (h:b<18446744073709551616):
  Calls Tryz.prog 378 #[.float .f64 b] w λe w'=>e=.returned (.bool (decide (9223372036854775808<=b)))/\w=w':=by
 have htb:=alf
 go_enter Tryz.func378,Tryz.ntmps378
 go_wp2
 go_ret
 refine⟨aoF ?_,rfl⟩;rw[Bool.eq_iff_iff];simp only[decide_eq_true_eq]
 go_arith
theorem we (b:Nat) (v:Bool) (h:nan b=v):(FloatKind.f64.format.order b b !=some Ordering.eq)=v:=by
 show(Ieee.double.order b b !=some Ordering.eq)=v;cases v
 · rw[Rq b b h h];simp [compare,compareOfLessAndEq]
 · rw[Rp b b (.inl h)];rfl
end Go.Proofs.YtejhifnjgoclpaaGreatDoor
namespace Go.Proofs.YtejhifnjgoclpaaGreatDoor
open Go.RowKit
theorem n5 (x y:Nat) (D:nan x=false) (F:nan y=false) (v:Bool) (h:decide (key x<key y)=v):(FloatKind.f64.format.order x y==some Ordering.lt)=v:=by
 show(Ieee.double.order x y==some Ordering.lt)=v;rw[Rq x y D F,<-h];simp only[compare,compareOfLessAndEq];by_cases h1:key x<key y
 · simp [h1]
 · by_cases h2:key x=key y
   · simp [h2]
   · simp [h1,h2]
theorem ub (x y:Nat) (D:nan x=false) (F:nan y=false) (v:Bool) (h:decide (key y<key x)=v):(FloatKind.f64.format.order x y==some Ordering.gt)=v:=by
 show(Ieee.double.order x y==some Ordering.gt)=v;rw[Rq x y D F,<-h];simp only[compare,compareOfLessAndEq];by_cases h1:key x<key y
 · have: ¬key y<key x:=by omega
   simp [h1,this]
 · by_cases h2:key x=key y
   · simp [h2]
   · have:key y<key x:=by omega
     simp [h1,h2,this]
theorem k1:nan 18442240474082181119=false/\key 18442240474082181119= -9218868437227405311:=by decide+kernel
theorem k2:nan 0=false/\key 0=0:=by decide+kernel
theorem k3:nan 9218868437227405311=false/\key 9218868437227405311=9218868437227405311:=by decide+kernel
theorem XR (b:Nat) (v:Bool) (w:World) (h:b<18446744073709551616) (D:Hid (decide (9223372036854775808<=b)=v)):
  Calls Tryz.prog 378 #[.float .f64 b] w λe w'=>e=.returned (.bool v)/\w=w':=by
 have:=aj7 b w h
 rwa [D.out] at this
set_option maxHeartbeats 800000 in
theorem apb (b:Nat) (w:World) (h:b<18446744073709551616):
  Calls Tryz.prog 297 #[.float .f64 b] w λe w'=>e=.returned (.int .i64 (fu b:Nat))/\w=w':=by
 have hk:=ab6 b h;rcases Q4 b h with⟨hkd,hn,hb⟩ |⟨hkd,hn,hb⟩ |⟨hkd,hn,hb⟩ |⟨hkd,hn,hb⟩ |⟨hkd,hn,hb⟩ |⟨hkd,hn,hb⟩ |⟨hkd,hn,hb⟩
 · have ho:=we b _ hn;have HK:=Lib.hid hkd;clear hkd hn hb hk
   go_enter Tryz.func297,Tryz.ntmps297
   go_wp2
   go_ret
   exact⟨mK (by rw[HK.out];rfl),rfl⟩
 · have ho:=we b _ hn;have HK:=Lib.hid hkd;rw[if_pos (by omega)] at hk
   have c0:=n5 b _ hn k1.1 true (by rw[k1.2];exact decide_eq_true (by rw[hk];omega))
   clear hkd hn hb hk
   go_enter Tryz.func297,Tryz.ntmps297
   go_wp2
   go_ret
   exact⟨mK (by rw[HK.out];rfl),rfl⟩
 · have ho:=we b _ hn;have HK:=Lib.hid hkd;rw[if_pos (by omega)] at hk
   have c0:=n5 b _ hn k1.1 false (by rw[k1.2];exact decide_eq_false (by rw[hk];omega))
   have c1:=n5 b _ hn k2.1 true (by rw[k2.2];exact decide_eq_true (by rw[hk];omega))
   clear hkd hn hb hk
   go_enter Tryz.func297,Tryz.ntmps297
   go_wp2
   go_ret
   exact⟨mK (by rw[HK.out];rfl),rfl⟩
 · have ho:=we b _ hn;have HK:=Lib.hid hkd;rw[if_pos (by omega)] at hk
   have c0:=n5 b _ hn k1.1 false (by rw[k1.2];exact decide_eq_false (by rw[hk];omega))
   have c1:=n5 b _ hn k2.1 false (by rw[k2.2];exact decide_eq_false (by rw[hk];omega))
   have c2:=ub b _ hn k3.1 false (by rw[k3.2];exact decide_eq_false (by rw[hk];omega))
   have c3:=ub b _ hn k2.1 false (by rw[k2.2];exact decide_eq_false (by rw[hk];omega))
   have HG:Hid (decide (9223372036854775808<=b)=true):=Lib.hid (decide_eq_true (by omega))
   clear hkd hn hb hk
   go_enter Tryz.func297,Tryz.ntmps297
   go_wp2_with (go_at_call 378;refine(XR b _ _ h HG).mono ?_;rintro e w' ⟨rfl,rfl⟩)
   go_ret
   exact⟨mK (by rw[HK.out];rfl),rfl⟩
 · have ho:=we b _ hn;have HK:=Lib.hid hkd;rw[if_neg (by omega)] at hk
   have c0:=n5 b _ hn k1.1 false (by rw[k1.2];exact decide_eq_false (by rw[hk];omega))
   have c1:=n5 b _ hn k2.1 false (by rw[k2.2];exact decide_eq_false (by rw[hk];omega))
   have c2:=ub b _ hn k3.1 false (by rw[k3.2];exact decide_eq_false (by rw[hk];omega))
   have c3:=ub b _ hn k2.1 false (by rw[k2.2];exact decide_eq_false (by rw[hk];omega))
   have HG:Hid (decide (9223372036854775808<=b)=false):=Lib.hid (decide_eq_false (by omega))
   clear hkd hn hb hk
   go_enter Tryz.func297,Tryz.ntmps297
   go_wp2_with (go_at_call 378;refine(XR b _ _ h HG).mono ?_;rintro e w' ⟨rfl,rfl⟩)
   go_ret
   exact⟨mK (by rw[HK.out];rfl),rfl⟩
 · have ho:=we b _ hn;have HK:=Lib.hid hkd;rw[if_neg (by omega)] at hk
   have c0:=n5 b _ hn k1.1 false (by rw[k1.2];exact decide_eq_false (by rw[hk];omega))
   have c1:=n5 b _ hn k2.1 false (by rw[k2.2];exact decide_eq_false (by rw[hk];omega))
   have c2:=ub b _ hn k3.1 false (by rw[k3.2];exact decide_eq_false (by rw[hk];omega))
   have c3:=ub b _ hn k2.1 true (by rw[k2.2];exact decide_eq_true (by rw[hk];omega))
   clear hkd hn hb hk
   go_enter Tryz.func297,Tryz.ntmps297
   go_wp2
   go_ret
   exact⟨mK (by rw[HK.out];rfl),rfl⟩
 · have ho:=we b _ hn;have HK:=Lib.hid hkd;rw[if_neg (by omega)] at hk
   have c0:=n5 b _ hn k1.1 false (by rw[k1.2];exact decide_eq_false (by rw[hk];omega))
   have c1:=n5 b _ hn k2.1 false (by rw[k2.2];exact decide_eq_false (by rw[hk];omega))
   have c2:=ub b _ hn k3.1 true (by rw[k3.2];exact decide_eq_true (by rw[hk];omega))
   clear hkd hn hb hk
   go_enter Tryz.func297,Tryz.ntmps297
   go_wp2
   go_ret
   exact⟨mK (by rw[HK.out];rfl),rfl⟩
end Go.Proofs.YtejhifnjgoclpaaGreatDoor
namespace Go.Proofs.YtejhifnjgoclpaaGreatDoor
open Go.RowKit
theorem Ay (b k:Nat) (w:World) (h:b<18446744073709551616) (hk:Hid (fu b=k)):
  Calls Tryz.prog 297 #[.float .f64 b] w λe w'=>e=.returned (.int .i64 k)/\w=w':=by
 have:=apb b w h
 rwa [hk.out] at this
theorem abi (b:Nat) (h:b<18446744073709551616):fu b<=6:=by rcases Q4 b h with⟨F,J,D⟩ |⟨F,J,D⟩ |⟨F,J,D⟩ |⟨F,J,D⟩ |⟨F,J,D⟩ |⟨F,J,D⟩ |⟨F,J,D⟩<;>omega
theorem YZ (b:Nat) (h:b<18446744073709551616):
  (fu b=0/\nan b=true/\dQ b=0)\/
  (nan b=false/\0<fu b/\
   ((fu b=1/\dQ b=4503599627370495/\key b= -9218868437227405312)\/
    (fu b=2/\dQ b+b=18446744073709551615/\key b=9223372036854775808 - b/\9223372036854775808<b/\b<18442240474082181120)\/
    (fu b=3/\dQ b=9223372036854775807/\key b=0)\/
    (fu b=4/\dQ b=9223372036854775808/\key b=0)\/
    (fu b=5/\dQ b=b+9223372036854775808/\key b=b/\0<b/\b<9218868437227405312)\/
    (fu b=6/\dQ b=18442240474082181120/\key b=9218868437227405312))):=by
 have r:=aa9 b h;have k:=ab6 b h;rcases Q4 b h with⟨h1,D,g1⟩ |⟨h1,D,g1⟩ |⟨h1,D,g1⟩ |⟨h1,D,g1⟩ |⟨h1,D,g1⟩ |⟨h1,D,g1⟩ |⟨h1,D,g1⟩
 · left;rw[D] at r;exact⟨h1,D,r⟩
 · rw[D,if_neg (by decide),if_pos (by omega)] at r
   rw[if_pos (by omega)] at k
   exact .inr ⟨D,by omega,.inl ⟨h1,by omega,by omega⟩⟩
 · rw[D,if_neg (by decide),if_pos (by omega)] at r
   rw[if_pos (by omega)] at k
   exact .inr ⟨D,by omega,.inr (.inl ⟨h1,by omega,by omega,g1.1,g1.2⟩)⟩
 · rw[D,if_neg (by decide),if_pos (by omega)] at r
   rw[if_pos (by omega)] at k
   exact .inr ⟨D,by omega,.inr (.inr (.inl ⟨h1,by omega,by omega⟩))⟩
 · rw[D,if_neg (by decide),if_neg (by omega)] at r
   rw[if_neg (by omega)] at k
   exact .inr ⟨D,by omega,.inr (.inr (.inr (.inl ⟨h1,by omega,by omega⟩)))⟩
 · rw[D,if_neg (by decide),if_neg (by omega)] at r
   rw[if_neg (by omega)] at k
   exact .inr ⟨D,by omega,.inr (.inr (.inr (.inr (.inl ⟨h1,by omega,by omega,g1.1,g1.2⟩))))⟩
 · rw[D,if_neg (by decide),if_neg (by omega)] at r
   rw[if_neg (by omega)] at k
   exact .inr ⟨D,by omega,.inr (.inr (.inr (.inr (.inr (⟨h1,by omega,by omega⟩)))))⟩
theorem akX (a b:Nat) (J:a<18446744073709551616) (L:b<18446744073709551616):
  (fu a<fu b->dQ a<dQ b)/\(fu b<fu a->dQ b<dQ a)/\
  (fu a=fu b->(nan a=true/\nan b=true/\dQ a=dQ b)\/
   (nan a=false/\nan b=false/\(key a<key b<->dQ a<dQ b)/\(key b<key a<->dQ b<dQ a))):=by
 rcases YZ a J with⟨h1,D,M⟩ |⟨D,h1,g1⟩<;>rcases YZ b L with⟨h2,F,N⟩ |⟨F,h2,g2⟩
 · exact⟨λh=>by omega,λh=>by omega,λh=>.inl ⟨D,F,by omega⟩⟩
 · exact⟨λh=>by omega,λh=>by omega,λh=>by omega⟩
 · exact⟨λh=>by omega,λh=>by omega,λh=>by omega⟩
 · exact⟨λh=>by omega,λh=>by omega,λh=>.inr ⟨D,F,by omega,by omega⟩⟩
theorem abB {a b:Nat} (h:dQ a<dQ b):jR a b= -1:=by unfold jR;rw[if_pos h]
theorem abC {a b:Nat} (h:dQ b<dQ a):jR a b=1:=by unfold jR;rw[if_neg (by omega),if_pos h]
theorem abD {a b:Nat} (h:dQ a=dQ b):jR a b=0:=by unfold jR;rw[if_neg (by omega),if_neg (by omega)]
set_option maxHeartbeats 800000 in
theorem Ep (a b:Nat) (w:World) (ha:a<18446744073709551616) (hb:b<18446744073709551616):
  Calls Tryz.prog 191 #[.float .f64 a,.float .f64 b] w λe w'=>e=.returned (.int .i64 (jR a b))/\w=w':=by
 obtain⟨m1,m2,m3⟩:=akX a b ha hb;have ka:=abi a ha;have kb:=abi b hb;generalize hk:fu a=k at*;generalize hn:fu b=n at*;have HK:=Lib.hid hk;have HN:=Lib.hid hn;clear hk hn;by_cases h1:k<n
 · have HC:=Lib.hid (abB (m1 h1));clear m1 m2 m3
   go_enter Tryz.func191,Tryz.ntmps191
   go_wp2_with fail
   refine(Ay a k _ ha HK).mono ?_;rintro e w' ⟨rfl,rfl⟩
   go_wp2_with fail
   refine(Ay b n _ hb HN).mono ?_;rintro e w' ⟨rfl,rfl⟩
   go_wp2_with fail
   go_ret
   exact⟨mK (by rw[HC.out]),rfl⟩
 · by_cases h2:n<k
   · have HC:=Lib.hid (abC (m2 h2));clear m1 m2 m3
     go_enter Tryz.func191,Tryz.ntmps191
     go_wp2_with fail
     refine(Ay a k _ ha HK).mono ?_;rintro e w' ⟨rfl,rfl⟩
     go_wp2_with fail
     refine(Ay b n _ hb HN).mono ?_;rintro e w' ⟨rfl,rfl⟩
     go_wp2_with fail
     go_ret
     exact⟨mK (by rw[HC.out]),rfl⟩
   · obtain rfl:k=n:=by omega
     have m3:=m3 rfl;clear m1 m2
     obtain⟨x,y,z,hx,hy,HC⟩: ∃(x y:Bool) (z:Int),(FloatKind.f64.format.order a b==some Ordering.lt)=x/\(FloatKind.f64.format.order a b==some Ordering.gt)=y/\Hid (jR a b=if x then-1 else if y then 1 else 0):=by
      rcases m3 with⟨n1,n2,r⟩ |⟨n1,n2,r1,r2⟩
      · refine⟨false,false,0,?_,?_,abD r⟩
        · show(Ieee.double.order a b==_)=_;rw[Rp a b (.inl n1)];rfl
        · show(Ieee.double.order a b==_)=_;rw[Rp a b (.inl n1)];rfl
      · refine⟨_,_,0,n5 a b n1 n2 _ rfl,ub a b n1 n2 _ rfl,?_⟩;by_cases c1:key a<key b
        · rw[decide_eq_true c1];exact abB (r1.1 c1)
        · rw[decide_eq_false c1];by_cases c2:key b<key a
          · rw[decide_eq_true c2];exact abC (r2.1 c2)
          · rw[decide_eq_false c2];exact abD (by omega)
     clear m3;cases x<;>cases y
     all_goals
      go_enter Tryz.func191,Tryz.ntmps191
      go_wp2_with fail
      refine(Ay a k _ ha HK).mono ?_;rintro e w' ⟨rfl,rfl⟩
      go_wp2_with fail
      refine(Ay b k _ hb HN).mono ?_;rintro e w' ⟨rfl,rfl⟩
      go_wp2_with fail
      go_ret
      exact⟨mK (by rw[HC.out];rfl),rfl⟩
end Go.Proofs.YtejhifnjgoclpaaGreatDoor
namespace Go.Proofs.YtejhifnjgoclpaaGreatDoor
open Go.RowKit
theorem akR {u:Nat} (h:u<10):Lib.decDigits u=[UInt8.ofNat (48+u %10)]:=by rw[Lib.decDigits,dif_pos h,Nat.mod_eq_of_lt h]
theorem akQ {u:Nat} (h: ¬u<10):Lib.decDigits u=Lib.decDigits (u/10)++[UInt8.ofNat (48+u %10)]:=by conv=>lhs;rw[Lib.decDigits,dif_neg h]
end Go.Proofs.YtejhifnjgoclpaaGreatDoor
namespace Go.Proofs.YtejhifnjgoclpaaGreatDoor.Fx
open Go.RowKit
set_option maxRecDepth 1000000
noncomputable section
def aB (c:UInt8):List UInt8->List (List UInt8)
 |[]=>[[]]
 |b::t=>if b=c then[]::aB c t else match aB c t with
  |h::r=>(b::h)::r
  |[]=>[[b]]
def strings_Split (s sep:List UInt8):Option (List (List UInt8)):=match sep with
 |[c]=>if s.length<4294967281 then some (aB c s) else none
 |_=>none
def cC (a b:List UInt8):Int:=if Op.bytesLess a b then-1 else if a=b then 0 else 1
def strings_Compare (a b:List UInt8):Option Int:=some (cC a b)
def bQ (c:UInt8):Bool:=decide (48<=c.toNat)&&decide (c.toNat<=57)
def tv (s:List UInt8):Option Bool:=if s.length<=1000000000 then some (s.all bQ) else none
def Fq (l:List (List UInt8)):Option (List (List UInt8)):=if l.length<1000000 then some l else none
def gM (c:Nat):Nat:=if 48<=c/\c<=57 then c - 48 else if 97<=c/\c<=102 then c - 87 else 16
def dn (l:List UInt8):Nat:=l.foldl (λn c=>n*16+gM c.toNat) 0
def zg (s:List UInt8):Option (Nat×Bool):=if s.length=16/\s.all (λc=>decide (gM c.toNat<16))=true then some (dn s,true) else some (0,false)
def qX (b:Nat):Bool:=decide (b/4503599627370496 %2048=2047)&& !decide (b %4503599627370496=0)
def fj (b:Nat):Nat:=if qX b then 0 else if 9223372036854775808<=b then 18446744073709551615 - b else b+9223372036854775808
def DL (a b:Nat):Option Int:=if a<18446744073709551616/\b<18446744073709551616 then some (if fj a<fj b then-1 else if fj b<fj a then 1 else 0) else none
def uF (d:Nat):UInt8:=if d<10 then UInt8.ofNat (48+d) else UInt8.ofNat (87+d)
def Aw (n:Int):Option (List UInt8):=if 0<=n/\n<18446744073709551616 then some ((List.range 16).map λi=>uF (n.toNat/16 ^(15 - i)%16)) else none
def kD (n:Nat):List UInt8:=if h:n<10 then[UInt8.ofNat (48+n)] else kD (n/10)++[UInt8.ofNat (48+n %10)]
def strconv_Itoa (n:Int):Option (List UInt8):=if 0<=n/\n<=9223372036854775807 then some (kD n.toNat) else none
def ot (a b:Int):Bool:=decide (a.natAbs<b.natAbs)||(decide (a.natAbs=b.natAbs)&&decide (a<b))
def xd (x:Int):List Int->List Int
 |[]=>[x]
 |y::t=>if ot x y then x::y::t else if x=y then y::t else y::xd x t
def bV (l:List Int):List Int:=l.foldr xd []
def Uk (l:List Int):Bool:=l.all λx=>(decide (-1000000<=x)&&decide (x<=1000000))
def a0X (l:List Int):Option (List Int):=if Uk l&&decide (l.length<=1000000) then some (bV l) else none
def mC (l:List Int):Option (List Int×List Int):=if Uk l&&decide (l.length<=1000000) then some (bV l,l) else none
abbrev cP:=(Int×Int×Int)×List UInt8
def mw (v:cP) (place:Int):Option cP:=
 if place=0 then(if 0<=v.1.1/\v.1.1<9223372036854775807 then some ((v.1.1+1,0,0),[]) else none)
 else if place=1 then(if 0<=v.1.2.1/\v.1.2.1<9223372036854775807 then some ((v.1.1,v.1.2.1+1,0),[]) else none)
 else if place=2 then(if 0<=v.1.2.2/\v.1.2.2<9223372036854775807 then some ((v.1.1,v.1.2.1,v.1.2.2+1),[]) else none)
 else some ((0,0,0),[])
abbrev cO:=Int×cP
def bZ (o:Int):List UInt8:=if o=1 then[33,61] else if o=2 then[60] else if o=3 then[60,61] else if o=4 then[62] else if o=5 then[62,61] else if o=6 then[126] else if o=7 then[94] else if o=8 then[42] else[61]
def gr (s:List UInt8):Bool:= !s.isEmpty&&decide (s.length<=8)&&(s.all λc=>bQ c||(decide (97<=c.toNat)&&decide (c.toNat<=122))||decide (c.toNat=45))&&(!(s.all bQ)||decide (s.length=1)||decide (s.head?≠some 48))
def preB (s:List UInt8):Bool:=decide ((aB 46 s).length<=4)&&(aB 46 s).all gr
def xc (n:Int):Bool:=decide (0<=n)&&decide (n<=999999)
def pA (v:cP):Bool:=xc v.1.1&&xc v.1.2.1&&xc v.1.2.2&&(v.2.isEmpty||preB v.2)
def ky (v:cP):List UInt8:=if pA v then kD v.1.1.toNat++46::kD v.1.2.1.toNat++46::kD v.1.2.2.toNat++(if v.2.isEmpty then[] else 45::v.2) else[]
def fN (c:cO):List UInt8:=bZ c.1++(if c.1=8 then[] else ky c.2)
def c9 (c:UInt8):List (List UInt8)->List UInt8
 |[]=>[]
 |[x]=>x
 |x::y::t=>x++c::c9 c (y::t)
def yG (r:List (List cO)):Option (List UInt8):=if r.length<=100/\(∀a∈r,a.length<=100)/\(∀a∈r,∀c∈a,c.1=8\/(pA c.2=true/\c.2.2.length<=20000)) then some (c9 124 (r.map λa=>c9 44 (a.map fN))) else none
abbrev Want:=List UInt8×List UInt8
def uh (a b:Want):Bool:=Op.bytesLess a.1 b.1||(decide (a.1=b.1)&&Op.bytesLess a.2 b.2)
def sf (l:List Want):List Want:=l.mergeSort λx y=> !uh y x
def vV (l:List Want):Option (List Want):=if l.length<1000000 then some (sf l) else none
def db:List Want->List Want
 |[]=>[]
 |[x]=>[x]
 |x::y::t=>if x=y then db (y::t) else x::db (y::t)
theorem apA (l:List UInt8) (c:UInt8) (w:World) (D:l.length<=9223372036854775807):
  Calls Tryz.prog 233 #[.string ⟨l.toArray⟩,.string ⟨#[c]⟩] w λe w'=>e=.returned (.tuple #[.string ⟨(mW l c).1.toArray⟩,.string ⟨(mW l c).2.1.toArray⟩,.bool (mW l c).2.2])/\Below w.heap.size w w':=by
 by_cases h:ak (gA c) l 0<l.length
 · refine(aqY l c _ w D (Lib.hid rfl) h).mono ?_;rintro e w' ⟨rfl,m,rfl⟩;exact⟨by simp [mW,h],⟨rfl,rfl,rfl,Nat.le_refl _,λ_ _=>rfl⟩⟩
 · refine(arQ l c w D (Lib.hid h)).mono ?_;rintro e w' ⟨rfl,rfl⟩;refine⟨?_,Below.refl _ _⟩;simp [mW,h,List.take_of_length_le (Nat.le_of_not_lt h),List.drop_eq_nil_of_le (Nat.le_succ_of_le (Nat.le_of_not_lt h))]
noncomputable def J6:dh Tryz.prog:=mkB 233 ⟨[(0,.c (.v .str)),(1,.c (.v .str))],[]⟩ [(false,⟨[(2,.c (.v .str)),(3,.c (.v .str)),(4,.c (.v .bool))],[]⟩)] (λr=>(r.1,r.2.1,r.2.2,())) (λx=>kV x.1 x.2.1) (by kernel_rfl) (λx o h0=>by
 obtain⟨l,s,u⟩:=x;have h:kV l s=some o:=h0;clear h0;unfold kV at h;split at h
 · rename_i c;split at h
   · rename_i D;injection h with h;subst h;exact wM [.string ⟨l.toArray⟩,.string ⟨#[c]⟩] (.tuple #[.string ⟨(mW l c).1.toArray⟩,.string ⟨(mW l c).2.1.toArray⟩,.bool (mW l c).2.2]) rfl rfl λw=>apA l c w D
   · cases h
 · cases h)
noncomputable def aiM:dh Tryz.prog:=mkB 253 ⟨[(0,.c (.v .str))],[]⟩ [(false,⟨[(2,.c (.v (.gB .f64))),(3,.c (.v .bool))],[]⟩)] (λr=>(r.1,r.2,())) (λx=>zg x.1) (by kernel_rfl) (λx o h0=>by
 obtain⟨l,u⟩:=x;have h:zg l=some o:=h0;clear h0;have F:ku ⟨l.toArray⟩=(decide (l.length=16)&&l.all λc=>decide (gM c.toNat<16)):=by unfold ku mN;rfl
 have J:o=(r9 ⟨l.toArray⟩,ku ⟨l.toArray⟩):=by
  unfold zg at h;unfold r9;split at h
  · rename_i D;injection h with h;have:ku ⟨l.toArray⟩=true:=by rw[F,D.2,decide_eq_true D.1];rfl
    rw[this,if_pos rfl,<-h];rfl
  · rename_i D;injection h with h
    have:ku ⟨l.toArray⟩=false:=by
     rw[F];by_cases g:l.length=16
     · rw[decide_eq_true g,Bool.true_and];exact Bool.eq_false_iff.2 λq=>D ⟨g,q⟩
     · rw[decide_eq_false g];rfl
    rw[this,if_neg (by decide),<-h]
 subst J;exact(wM [.string ⟨l.toArray⟩] (.tuple #[.float .f64 (r9 ⟨l.toArray⟩),.bool (ku ⟨l.toArray⟩)]) rfl rfl λw=>(alp ⟨l.toArray⟩ w).mono λe w' ⟨h1,h2⟩=>⟨h1,QI h2⟩))
theorem Yz {b:Nat} (h:b<18446744073709551616):fj b=Go.Proofs.YtejhifnjgoclpaaGreatDoor.dQ b:=by
 rw[Go.Proofs.YtejhifnjgoclpaaGreatDoor.aa9 b h];unfold fj;have:qX b=nan b:=by unfold qX nan cB;rw[Bool.eq_iff_iff];simp only[Bool.and_eq_true,Bool.not_eq_true',decide_eq_true_eq,decide_eq_false_iff_not];omega
 rw[this]
noncomputable def ah2:dh Tryz.prog:=mkB 191 ⟨[(0,.c (.v (.gB .f64))),(1,.c (.v (.gB .f64)))],[]⟩ [(false,⟨[(4,.c (.v (.int .i64)))],[]⟩)] (λr=>(r,())) (λx=>DL x.1 x.2.1) (by kernel_rfl) (λx o h0=>by
 obtain⟨a,b,u⟩:=x;have h:DL a b=some o:=h0;clear h0;unfold DL at h;split at h
 · rename_i D;injection h with h;have F:o=Go.Proofs.YtejhifnjgoclpaaGreatDoor.jR a b:=by unfold Go.Proofs.YtejhifnjgoclpaaGreatDoor.jR;rw[<-h,Yz D.1,Yz D.2]
   subst F;exact(wM [.float .f64 a,.float .f64 b] (.int .i64 (Go.Proofs.YtejhifnjgoclpaaGreatDoor.jR a b)) rfl rfl λw=>(Ep a b w D.1 D.2).mono λe w' ⟨h1,h2⟩=>⟨h1,QI h2⟩)
 · cases h)
noncomputable def ani:dh Tryz.prog:=mkB 402 ⟨[(0,.c (.v (.int .u64)))],[]⟩ [(false,⟨[(2,.c (.v .str))],[]⟩)] (λr=>(r,())) (λx=>Aw x.1) (by kernel_rfl) (λx o h0=>by
 obtain⟨n,u⟩:=x;have h:Aw n=some o:=h0;clear h0;unfold Aw at h;split at h
 · rename_i D;injection h with h;obtain⟨m,rfl⟩: ∃m:Nat,n=(m:Int):=⟨Int.toNat n,(Int.toNat_of_nonneg D.1).symm⟩;have F:o=T9 m:=by rw[<-h,ae9];rfl
   subst F;exact(wM [.int .u64 (m:Int)] (.string ⟨(T9 m).toArray⟩) rfl rfl λw=>aqI m w (by omega))
 · cases h)
theorem apz: ∀n:Nat,kD n=Lib.decDigits n:=by
 intro n
 induction n using Nat.strongRecOn with
 |_ n D=>
  by_cases h:n<10
  · rw[akR h,kD,dif_pos h,Nat.mod_eq_of_lt h]
  · rw[akQ h,kD,dif_neg h,D (n/10) (by omega)]
end
end Go.Proofs.YtejhifnjgoclpaaGreatDoor.Fx
