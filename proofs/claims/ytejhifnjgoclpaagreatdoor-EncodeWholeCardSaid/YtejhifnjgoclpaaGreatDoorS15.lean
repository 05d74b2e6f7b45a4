/- Parts of the proofs, put together by a program. -/
import Derived.Test.YtejhifnjgoclpaaGreatDoorS14
import Derived.Test.YtejhifnjgoclpaaGreatDoorProg
import Derived.OwnWalk
set_option linter.unusedVariables false
set_option linter.unusedSimpArgs false
namespace Go.Proofs.YtejhifnjgoclpaaGreatDoor
open Go.RowKit
theorem akR {u:Nat} (h:u<10):Lib.decDigits u=[UInt8.ofNat (48+u %10)]:=by rw[Lib.decDigits,dif_pos h,Nat.mod_eq_of_lt h]
theorem akQ {u:Nat} (h: ¬u<10):Lib.decDigits u=Lib.decDigits (u/10)++[UInt8.ofNat (48+u %10)]:=by conv=>lhs;rw[Lib.decDigits,dif_neg h]
end Go.Proofs.YtejhifnjgoclpaaGreatDoor
namespace Go.Proofs.YtejhifnjgoclpaaGreatDoor.Fx
open Go.RowKit
set_option maxRecDepth 1000000
noncomputable section
def aB (c:UInt8):List UInt8->List (List UInt8)
 |[]=>[[]]
 |b::t=>if b=c then[]::aB c t else match aB c t with
  |h::r=>(b::h)::r
  |[]=>[[b]]
def strings_Split (s sep:List UInt8):Option (List (List UInt8)):=match sep with
 |[c]=>if s.length<4294967281 then some (aB c s) else none
 |_=>none
def cC (a b:List UInt8):Int:=if Op.bytesLess a b then-1 else if a=b then 0 else 1
def strings_Compare (a b:List UInt8):Option Int:=some (cC a b)
def bQ (c:UInt8):Bool:=decide (48<=c.toNat)&&decide (c.toNat<=57)
def tv (s:List UInt8):Option Bool:=if s.length<=1000000000 then some (s.all bQ) else none
def Fq (l:List (List UInt8)):Option (List (List UInt8)):=if l.length<1000000 then some l else none
def gM (c:Nat):Nat:=if 48<=c/\c<=57 then c - 48 else if 97<=c/\c<=102 then c - 87 else 16
def dn (l:List UInt8):Nat:=l.foldl (fun n c=>n*16+gM c.toNat) 0
def zg (s:List UInt8):Option (Nat×Bool):=
 if s.length=16/\s.all (fun c=>decide (gM c.toNat<16))=true then some (dn s,true) else some (0,false)
def qX (b:Nat):Bool:=decide (b/4503599627370496 %2048=2047)&& !decide (b %4503599627370496=0)
def fj (b:Nat):Nat:=if qX b then 0 else if 9223372036854775808<=b then 18446744073709551615 - b else b+9223372036854775808
def DL (a b:Nat):Option Int:=if a<18446744073709551616/\b<18446744073709551616 then some (if fj a<fj b then-1 else if fj b<fj a then 1 else 0) else none
def uF (d:Nat):UInt8:=if d<10 then UInt8.ofNat (48+d) else UInt8.ofNat (87+d)
def Aw (n:Int):Option (List UInt8):=if 0<=n/\n<18446744073709551616 then some ((List.range 16).map fun i=>uF (n.toNat/16 ^(15 - i)%16)) else none
def kD (n:Nat):List UInt8:=if h:n<10 then[UInt8.ofNat (48+n)] else kD (n/10)++[UInt8.ofNat (48+n %10)]
def strconv_Itoa (n:Int):Option (List UInt8):=if 0<=n/\n<=9223372036854775807 then some (kD n.toNat) else none
def ot (a b:Int):Bool:=decide (a.natAbs<b.natAbs)||(decide (a.natAbs=b.natAbs)&&decide (a<b))
def xd (x:Int):List Int->List Int
 |[]=>[x]
 |y::t=>if ot x y then x::y::t else if x=y then y::t else y::xd x t
def bV (l:List Int):List Int:=l.foldr xd []
def Uk (l:List Int):Bool:=l.all fun x=>(decide (-1000000<=x)&&decide (x<=1000000))
def mC (l:List Int):Option (List Int×List Int):=if Uk l&&decide (l.length<=1000000) then some (bV l,l) else none
abbrev cP:=(Int×Int×Int)×List UInt8
def mw (v:cP) (place:Int):Option cP:=
 if place=0 then(if 0<=v.1.1/\v.1.1<9223372036854775807 then some ((v.1.1+1,0,0),[]) else none)
 else if place=1 then(if 0<=v.1.2.1/\v.1.2.1<9223372036854775807 then some ((v.1.1,v.1.2.1+1,0),[]) else none)
 else if place=2 then(if 0<=v.1.2.2/\v.1.2.2<9223372036854775807 then some ((v.1.1,v.1.2.1,v.1.2.2+1),[]) else none)
 else some ((0,0,0),[])
abbrev cO:=Int×cP
def bZ (o:Int):List UInt8:=
 if o=1 then[33,61] else if o=2 then[60] else if o=3 then[60,61] else if o=4 then[62] else if o=5 then[62,61] else if o=6 then[126] else if o=7 then[94] else if o=8 then[42] else[61]
def gr (s:List UInt8):Bool:= !s.isEmpty&&decide (s.length<=8)&&(s.all fun c=>bQ c||(decide (97<=c.toNat)&&decide (c.toNat<=122))||decide (c.toNat=45))&&(!(s.all bQ)||decide (s.length=1)||decide (s.head?≠some 48))
def preB (s:List UInt8):Bool:=decide ((aB 46 s).length<=4)&&(aB 46 s).all gr
def xc (n:Int):Bool:=decide (0<=n)&&decide (n<=999999)
def pA (v:cP):Bool:=xc v.1.1&&xc v.1.2.1&&xc v.1.2.2&&(v.2.isEmpty||preB v.2)
def ky (v:cP):List UInt8:=if pA v then kD v.1.1.toNat++46::kD v.1.2.1.toNat++46::kD v.1.2.2.toNat++(if v.2.isEmpty then[] else 45::v.2) else[]
def fN (c:cO):List UInt8:=bZ c.1++(if c.1=8 then[] else ky c.2)
def c9 (c:UInt8):List (List UInt8)->List UInt8
 |[]=>[]
 |[x]=>x
 |x::y::t=>x++c::c9 c (y::t)
def yG (r:List (List cO)):Option (List UInt8):=if r.length<=100/\(∀a∈r,a.length<=100)/\(∀a∈r,∀c∈a,c.1=8\/(pA c.2=true/\c.2.2.length<=20000)) then some (c9 124 (r.map fun a=>c9 44 (a.map fN))) else none
abbrev Want:=List UInt8×List UInt8
def uh (a b:Want):Bool:=Op.bytesLess a.1 b.1||(decide (a.1=b.1)&&Op.bytesLess a.2 b.2)
def sf (l:List Want):List Want:=l.mergeSort fun x y=> !uh y x
def vV (l:List Want):Option (List Want):=if l.length<1000000 then some (sf l) else none
def db:List Want->List Want
 |[]=>[]
 |[x]=>[x]
 |x::y::t=>if x=y then db (y::t) else x::db (y::t)
theorem apA (l:List UInt8) (c:UInt8) (w:World) (D:l.length<=9223372036854775807):
  Calls Tryz.prog 233 #[.string ⟨l.toArray⟩,.string ⟨#[c]⟩] w fun e w'=>e=.returned (.tuple #[.string ⟨(mW l c).1.toArray⟩,.string ⟨(mW l c).2.1.toArray⟩,.bool (mW l c).2.2])/\Below w.heap.size w w':=by
 by_cases h:ak (gA c) l 0<l.length
 · refine(aqY l c _ w D (Lib.hid rfl) h).mono ?_;rintro e w' ⟨rfl,m,rfl⟩;exact⟨by simp [mW,h],⟨rfl,rfl,rfl,Nat.le_refl _,fun _ _=>rfl⟩⟩
 · refine(arQ l c w D (Lib.hid h)).mono ?_;rintro e w' ⟨rfl,rfl⟩;refine⟨?_,Below.refl _ _⟩;simp [mW,h,List.take_of_length_le (Nat.le_of_not_lt h),List.drop_eq_nil_of_le (Nat.le_succ_of_le (Nat.le_of_not_lt h))]
noncomputable def J6:dh Tryz.prog:=mkB 233 ⟨[(0,.c (.v .str)),(1,.c (.v .str))],[]⟩ [(false,⟨[(2,.c (.v .str)),(3,.c (.v .str)),(4,.c (.v .bool))],[]⟩)] (fun r=>(r.1,r.2.1,r.2.2,())) (fun x=>kV x.1 x.2.1) (by kernel_rfl) (fun x o h0=>by
 obtain⟨l,s,u⟩:=x;have h:kV l s=some o:=h0;clear h0;unfold kV at h;split at h
 · rename_i c;split at h
   · rename_i D;injection h with h;subst h;exact wM [.string ⟨l.toArray⟩,.string ⟨#[c]⟩] (.tuple #[.string ⟨(mW l c).1.toArray⟩,.string ⟨(mW l c).2.1.toArray⟩,.bool (mW l c).2.2]) rfl rfl fun w=>apA l c w D
   · cases h
 · cases h)
noncomputable def aiM:dh Tryz.prog:=mkB 253 ⟨[(0,.c (.v .str))],[]⟩ [(false,⟨[(2,.c (.v (.gB .f64))),(3,.c (.v .bool))],[]⟩)] (fun r=>(r.1,r.2,())) (fun x=>zg x.1) (by kernel_rfl) (fun x o h0=>by
 obtain⟨l,u⟩:=x;have h:zg l=some o:=h0;clear h0;have F:ku ⟨l.toArray⟩=(decide (l.length=16)&&l.all fun c=>decide (gM c.toNat<16)):=by unfold ku mN;rfl
 have J:o=(r9 ⟨l.toArray⟩,ku ⟨l.toArray⟩):=by
  unfold zg at h;unfold r9;split at h
  · rename_i D;injection h with h;have:ku ⟨l.toArray⟩=true:=by rw[F,D.2,decide_eq_true D.1];rfl
    rw[this,if_pos rfl,<-h];rfl
  · rename_i D;injection h with h
    have:ku ⟨l.toArray⟩=false:=by
     rw[F];by_cases g:l.length=16
     · rw[decide_eq_true g,Bool.true_and];exact Bool.eq_false_iff.2 fun q=>D ⟨g,q⟩
     · rw[decide_eq_false g];rfl
    rw[this,if_neg (by decide),<-h]
 subst J;exact(wM [.string ⟨l.toArray⟩] (.tuple #[.float .f64 (r9 ⟨l.toArray⟩),.bool (ku ⟨l.toArray⟩)]) rfl rfl fun w=>(alp ⟨l.toArray⟩ w).mono fun e w' ⟨h1,h2⟩=>⟨h1,QI h2⟩))
theorem Yz {b:Nat} (h:b<18446744073709551616):fj b=Go.Proofs.YtejhifnjgoclpaaGreatDoor.dQ b:=by
 rw[Go.Proofs.YtejhifnjgoclpaaGreatDoor.aa9 b h];unfold fj;have:qX b=nan b:=by unfold qX nan cB;rw[Bool.eq_iff_iff];simp only[Bool.and_eq_true,Bool.not_eq_true',decide_eq_true_eq,decide_eq_false_iff_not];omega
 rw[this]
noncomputable def ah2:dh Tryz.prog:=mkB 191 ⟨[(0,.c (.v (.gB .f64))),(1,.c (.v (.gB .f64)))],[]⟩ [(false,⟨[(4,.c (.v (.int .i64)))],[]⟩)] (fun r=>(r,())) (fun x=>DL x.1 x.2.1) (by kernel_rfl) (fun x o h0=>by
 obtain⟨a,b,u⟩:=x;have h:DL a b=some o:=h0;clear h0;unfold DL at h;split at h
 · rename_i D;injection h with h;have F:o=Go.Proofs.YtejhifnjgoclpaaGreatDoor.jR a b:=by unfold Go.Proofs.YtejhifnjgoclpaaGreatDoor.jR;rw[<-h,Yz D.1,Yz D.2]
   subst F;exact(wM [.float .f64 a,.float .f64 b] (.int .i64 (Go.Proofs.YtejhifnjgoclpaaGreatDoor.jR a b)) rfl rfl fun w=>(Ep a b w D.1 D.2).mono fun e w' ⟨h1,h2⟩=>⟨h1,QI h2⟩)
 · cases h)
noncomputable def ani:dh Tryz.prog:=mkB 402 ⟨[(0,.c (.v (.int .u64)))],[]⟩ [(false,⟨[(2,.c (.v .str))],[]⟩)] (fun r=>(r,())) (fun x=>Aw x.1) (by kernel_rfl) (fun x o h0=>by
 obtain⟨n,u⟩:=x;have h:Aw n=some o:=h0;clear h0;unfold Aw at h;split at h
 · rename_i D;injection h with h;obtain⟨m,rfl⟩: ∃m:Nat,n=(m:Int):=⟨Int.toNat n,(Int.toNat_of_nonneg D.1).symm⟩;have F:o=T9 m:=by rw[<-h,Int.toNat_natCast];rfl
   subst F;exact(wM [.int .u64 (m:Int)] (.string ⟨(T9 m).toArray⟩) rfl rfl fun w=>aqI m w (by omega))
 · cases h)
theorem apz: ∀n:Nat,kD n=Lib.decDigits n:=by
 intro n
 induction n using Nat.strongRecOn with
 |_ n D=>
  by_cases h:n<10
  · rw[akR h,kD,dif_pos h,Nat.mod_eq_of_lt h]
  · rw[akQ h,kD,dif_neg h,D (n/10) (by omega)]
end
end Go.Proofs.YtejhifnjgoclpaaGreatDoor.Fx
