/- Parts of the proofs, put together by a program. -/
import Derived.Test.YtejhifnjgoclpaaGreatDoorS12
import Derived.Laws.FloatBits
set_option linter.unusedVariables false
set_option linter.unusedSimpArgs false
open Bool renaming false_eq_true->at1
namespace Go.Proofs.YtejhifnjgoclpaaGreatDoor
open Ieee
def cB (x:Nat):Nat:=x %9223372036854775808
def fK (x:Nat):Bool:=x/9223372036854775808 %2==1
def nan (x:Nat):Bool:=decide (9218868437227405312<cB x)
def key (x:Nat):Int:=if fK x then-(cB x:Int) else(cB x:Int)
def ic (r:Nat):Nat:=if r<4503599627370496 then r else(4503599627370496+r %4503599627370496)*2 ^(r/4503599627370496 - 1)
theorem XM (r:Nat):ic r<ic (r+1):=by
 unfold ic;by_cases h1:r+1<4503599627370496
 · rw[if_pos (by omega),if_pos h1];omega
 · by_cases h2:r<4503599627370496
   · have e:r=4503599627370495:=by omega
     subst e;decide
   · rw[if_neg h2,if_neg h1];by_cases J:r %4503599627370496=4503599627370495
     · have D:(r+1)%4503599627370496=0:=by omega
       have F:(r+1)/4503599627370496 - 1=(r/4503599627370496 - 1)+1:=by omega
       rw[J,D,F,Nat.pow_succ];have:0<2 ^(r/4503599627370496 - 1):=Nat.pow_pos (by decide)
       generalize 2 ^(r/4503599627370496 - 1)=p at*;omega
     · have D:(r+1)%4503599627370496=r %4503599627370496+1:=by omega
       have F:(r+1)/4503599627370496=r/4503599627370496:=by omega
       rw[D,F];exact(Nat.mul_lt_mul_right (Nat.pow_pos (by decide))).2 (by omega)
theorem ak2 {r s:Nat} (h:r<s):ic r<ic s:=by
 induction s with
 |zero=>omega
 |succ s D=>
  by_cases e:r=s
  · subst e;exact XM r
  · exact Nat.lt_trans (D (by omega)) (XM s)
theorem KQ:ic 0=0:=by decide
def Tv (x:Nat):Int:=if fK x then-(ic (cB x):Int) else(ic (cB x):Int)
theorem aiG (x y:Nat):compare (Tv x) (Tv y)=compare (key x) (key y):=by
 have h1: ∀a b,a<b->ic a<ic b:=fun a b h=>ak2 h
 have m:ic (cB x)<ic (cB y)<->cB x<cB y:=by
  constructor
  · intro h;apply Classical.byContradiction;intro D;by_cases e:cB x=cB y
    · rw[e] at h;omega
    · have:=h1 (cB y) (cB x) (by omega);omega
  · exact h1 _ _
 have m2:ic (cB y)<ic (cB x)<->cB y<cB x:=by
  constructor
  · intro h;apply Classical.byContradiction;intro D;by_cases e:cB x=cB y
    · rw[e] at h;omega
    · have:=h1 (cB x) (cB y) (by omega);omega
  · exact h1 _ _
 have F:ic (cB x)=0<->cB x=0:=by
  constructor
  · intro h;by_cases e:0<cB x
    · have:=h1 0 _ e;rw[KQ] at this;omega
    · omega
  · intro h;rw[h];exact KQ
 have z2:ic (cB y)=0<->cB y=0:=by
  constructor
  · intro h;by_cases e:0<cB y
    · have:=h1 0 _ e;rw[KQ] at this;omega
    · omega
  · intro h;rw[h];exact KQ
 unfold Tv key;generalize ic (cB x)=a at*;generalize ic (cB y)=b at*;simp only[compare,compareOfLessAndEq];cases fK x<;>cases fK y<;>simp only[at1,if_true,if_false]<;>(repeat' split)<;>first |rfl |omega
theorem ajg (a b:Int) (c:Nat) (h:0<c):compare (a*c) (b*c)=compare a b:=by
 have D:a*c<b*c<->a<b:=Int.mul_lt_mul_right (by omega)
 have F:a*c=b*c<->a=b:=Int.mul_eq_mul_right_iff (by omega)
 simp only[compare,compareOfLessAndEq,D,F]
theorem WZ (s:Bool) (m e c:Nat):signed s m e*((2 ^c:Nat):Int)=if s then-((m*2 ^(e+c):Nat):Int) else((m*2 ^(e+c):Nat):Int):=by
 unfold signed;rw[Nat.shiftLeft_eq,Nat.pow_add,<-Nat.mul_assoc];cases s
 · simp only[at1,if_false];rw[<-Int.natCast_mul]
 · simp only[if_true];rw[Int.neg_mul,<-Int.natCast_mul]
theorem Rk (x:Nat):double.read x=
 if cB x<4503599627370496 then .number (fK x) (cB x) (-1074)
 else if cB x<9218868437227405312 then .number (fK x) (4503599627370496+cB x %4503599627370496) (-1074+(cB x/4503599627370496 - 1:Nat))
 else if cB x=9218868437227405312 then .infinity (fK x) else .nan (fK x) (cB x - 9218868437227405312):=rfl
theorem Kv (x:Nat) (h:cB x<9218868437227405312): ∃m e:Nat,double.read x=.number (fK x) m (-1074+(e:Int))/\m*2 ^e=ic (cB x):=by
 rw[Rk];by_cases h1:cB x<4503599627370496
 · rw[if_pos h1];exact⟨cB x,0,rfl,by unfold ic;rw[if_pos h1];simp⟩
 · rw[if_neg h1,if_pos h];exact⟨_,_,rfl,by unfold ic;rw[if_neg h1]⟩
theorem ajH (x y:Nat) (O:cB x<9218868437227405312) (U:cB y<9218868437227405312):double.order x y=some (compare (key x) (key y)):=by
 obtain⟨m,e,h1,h2⟩:=Kv x O;obtain⟨n,g,M,N⟩:=Kv y U;unfold Format.order;rw[h1,M,<-aiG];show some (compare _ _)=_;congr 1;have D:min (-1074+(e:Int)) (-1074+(g:Int))= -1074+((min e g:Nat):Int):=by omega
 rw[D];have F:(-1074+(e:Int) - (-1074+((min e g:Nat):Int))).toNat=e - min e g:=by omega
 have J:(-1074+(g:Int) - (-1074+((min e g:Nat):Int))).toNat=g - min e g:=by omega
 rw[F,J,<-ajg _ _ (2 ^min e g) (Nat.pow_pos (by decide)),WZ,WZ]
 rw[show e - min e g+min e g=e from by omega,show g - min e g+min e g=g from by omega,h2,N]
 rfl
theorem Rp (x y:Nat) (h:nan x=true\/nan y=true):double.order x y=none:=by
 have D: ∀z,nan z=true-> ∃s t,double.read z=.nan s t:=by
  intro z F;have F:=of_decide_eq_true F;rw[Rk,if_neg (by omega),if_neg (by omega),if_neg (by omega)]
  exact⟨_,_,rfl⟩
 unfold Format.order;rcases h with h |h
 · obtain⟨s,t,e⟩:=D x h;rw[e];cases double.read y<;>rfl
 · obtain⟨s,t,e⟩:=D y h;rw[e];cases double.read x<;>rfl
theorem RW (x:Nat) (h:cB x=9218868437227405312):double.read x=.infinity (fK x):=by rw[Rk,if_neg (by omega),if_neg (by omega),if_pos h]
theorem Rq (x y:Nat) (F:nan x=false) (J:nan y=false):double.order x y=some (compare (key x) (key y)):=by
 have F:=of_decide_eq_false F;have J:=of_decide_eq_false J;by_cases M:cB x<9218868437227405312
 · by_cases D:cB y<9218868437227405312
   · exact ajH x y M D
   · obtain⟨m,e,h1,_⟩:=Kv x M;have h2:=RW y (by omega)
     unfold Format.order;rw[h1,h2];show some (if fK y then Ordering.gt else Ordering.lt)=_
     unfold key;simp only[compare,compareOfLessAndEq];cases fK x<;>cases fK y<;>simp only[at1,if_true,if_false]<;>(repeat' split)<;>first |rfl |omega
 · have h1:=RW x (by omega)
   by_cases D:cB y<9218868437227405312
   · obtain⟨m,e,h2,_⟩:=Kv y D;unfold Format.order;rw[h1,h2];show some (if fK x then Ordering.lt else Ordering.gt)=_
     unfold key;simp only[compare,compareOfLessAndEq];cases fK x<;>cases fK y<;>simp only[at1,if_true,if_false]<;>(repeat' split)<;>first |rfl |omega
   · have h2:=RW y (by omega)
     unfold Format.order;rw[h1,h2];show some (compare (fK y).toNat (fK x).toNat)=_;unfold key;simp only[compare,compareOfLessAndEq];cases fK x<;>cases fK y<;>simp only[at1,if_true,if_false,Bool.toNat_true,Bool.toNat_false]<;>(repeat' split)<;>first |rfl |omega
end Go.Proofs.YtejhifnjgoclpaaGreatDoor
namespace Go.Proofs.YtejhifnjgoclpaaGreatDoor
theorem Tz (b:Nat) (h:b<18446744073709551616):fK b=decide (9223372036854775808<=b):=by unfold fK;rw[Bool.eq_iff_iff];simp only[beq_iff_eq,decide_eq_true_eq];omega
theorem aa5 (b:Nat) (h:b<18446744073709551616):cB b=if 9223372036854775808<=b then b - 9223372036854775808 else b:=by unfold cB;split<;>omega
def fu (b:Nat):Nat:=
 if nan b then 0 else if cB b=9218868437227405312 then(if fK b then 1 else 6) else if cB b=0 then(if fK b then 3 else 4) else if fK b then 2 else 5
def dQ (b:Nat):Nat:=if nan b then 0 else if fK b then 18446744073709551615 - b else b+9223372036854775808
def jR (a b:Nat):Int:=if dQ a<dQ b then-1 else if dQ b<dQ a then 1 else 0
theorem Q4 (b:Nat) (h:b<18446744073709551616):
  (fu b=0/\nan b=true/\(9218868437227405312<b/\b<9223372036854775808\/18442240474082181120<b))\/
  (fu b=1/\nan b=false/\b=18442240474082181120)\/
  (fu b=2/\nan b=false/\9223372036854775808<b/\b<18442240474082181120)\/
  (fu b=3/\nan b=false/\b=9223372036854775808)\/
  (fu b=4/\nan b=false/\b=0)\/
  (fu b=5/\nan b=false/\0<b/\b<9218868437227405312)\/
  (fu b=6/\nan b=false/\b=9218868437227405312):=by
 have hs:=Tz b h;have J:=aa5 b h;unfold fu nan;rw[hs];by_cases h1:9223372036854775808<=b
 · rw[if_pos h1] at J;rw[J,decide_eq_true h1];by_cases h2:9218868437227405312<b - 9223372036854775808
   · left;simp only[decide_eq_true h2];exact⟨if_pos trivial,trivial,.inr (by omega)⟩
   · simp only[decide_eq_false h2];by_cases F:b - 9223372036854775808=9218868437227405312
     · right;left;simp [F];omega
     · by_cases D:b - 9223372036854775808=0
       · right;right;right;left;simp [D];omega
       · right;right;left;simp [F,D];omega
 · rw[if_neg h1] at J;rw[J,decide_eq_false h1];by_cases h2:9218868437227405312<b
   · left;simp only[decide_eq_true h2];exact⟨if_pos trivial,trivial,.inl (by omega)⟩
   · simp only[decide_eq_false h2];by_cases F:b=9218868437227405312
     · right;right;right;right;right;right;simp [F]
     · by_cases D:b=0
       · right;right;right;right;left;simp [D]
       · right;right;right;right;right;left;simp [D];omega
theorem aa9 (b:Nat) (h:b<18446744073709551616):dQ b=if nan b then 0 else if 9223372036854775808<=b then 18446744073709551615 - b else b+9223372036854775808:=by unfold dQ;rw[Tz b h];simp only[decide_eq_true_eq]
theorem ab6 (b:Nat) (h:b<18446744073709551616):key b=if 9223372036854775808<=b then-((b:Int) - 9223372036854775808) else(b:Int):=by
 unfold key;rw[Tz b h,aa5 b h];by_cases h1:9223372036854775808<=b
 · simp only[h1,decide_true,if_true];omega
 · simp only[h1,decide_false,if_false,at1]
end Go.Proofs.YtejhifnjgoclpaaGreatDoor
