/- Parts of the proofs, put together by a program. -/
import Derived.Test.YtejhifnjgoclpaaGreatDoorS23
import Derived.Lib.OwnBridge
import Derived.Lib.RowBridge
import Derived.Lib.SlicesCompact
import Derived.Conc.MuLone
set_option linter.unusedVariables false
set_option linter.unusedSimpArgs false
open Int renaming toNat_natCast->as1
open List renaming mem_singleton->at5
namespace Go.Proofs.YtejhifnjgoclpaaGreatDoor.Fx
open Go.RowKit
set_option maxRecDepth 1000000
noncomputable section
section
open Go.Sort
def aqE (l:List Int):List Value:=l.map (Value.int .i64)
theorem z7 (x:Int) (w:World):Calls Tryz.prog 222 #[.int .i64 x] w fun e w'=>e=.returned (.bool false)/\w=w':=by
 have hxx:(x !=x)=false:=by simp
 go_enter Tryz.func222,Tryz.ntmps222
 go_wp2_with fail
 go_ret
 exact⟨rfl,rfl⟩
def qY (a b:Int):Int:=if a<b then-1 else if b<a then 1 else 0
theorem Ep (a b:Int) (w:World) (v:Int) (hv:Hid (qY a b=v)):Calls Tryz.prog 129 #[.int .i64 a,.int .i64 b] w fun e w'=>e=.returned (.int .i64 v)/\w=w':=by
 by_cases h1:a<b
 · have d1:decide (a<b)=true:=decide_eq_true h1;obtain rfl: -1=v:=by rw[<-hv.out];unfold qY;rw[if_pos h1]
   go_enter Tryz.func129,Tryz.ntmps129
   go_wp2_with fail
   refine(z7 a _).mono ?_;rintro e w1 ⟨rfl,rfl⟩
   go_wp2_with fail
   refine(z7 b _).mono ?_;rintro e w1 ⟨rfl,rfl⟩
   go_wp2_with fail
   go_ret
   exact⟨rfl,rfl⟩
 · have d1:decide (a<b)=false:=decide_eq_false h1;by_cases h2:b<a
   · have d2:decide (b<a)=true:=decide_eq_true h2;obtain rfl:1=v:=by rw[<-hv.out];unfold qY;rw[if_neg h1,if_pos h2]
     go_enter Tryz.func129,Tryz.ntmps129
     go_wp2_with fail
     refine(z7 a _).mono ?_;rintro e w1 ⟨rfl,rfl⟩
     go_wp2_with fail
     refine(z7 b _).mono ?_;rintro e w1 ⟨rfl,rfl⟩
     go_wp2_with fail
     go_ret
     exact⟨rfl,rfl⟩
   · have d2:decide (b<a)=false:=decide_eq_false h2;obtain rfl:0=v:=by rw[<-hv.out];unfold qY;rw[if_neg h1,if_neg h2]
     go_enter Tryz.func129,Tryz.ntmps129
     go_wp2_with fail
     refine(z7 a _).mono ?_;rintro e w1 ⟨rfl,rfl⟩
     go_wp2_with fail
     refine(z7 b _).mono ?_;rintro e w1 ⟨rfl,rfl⟩
     go_wp2_with fail
     go_ret
     exact⟨rfl,rfl⟩
def gv (x:Int):Int:=max x (IntKind.i64.wrap (-x))
theorem LL (x:Int) (w:World):Calls Tryz.prog 136 #[.int .i64 x] w fun e w'=>e=.returned (.int .i64 (gv x))/\w=w':=by
 obtain⟨y,hy⟩: ∃y,IntKind.i64.wrap (-x)=y:=⟨_,rfl⟩;have hv:Hid (max x y=gv x):=Lib.hid (by unfold gv;rw[hy])
 go_enter Tryz.func136,Tryz.ntmps136
 go_wp2_with fail
 go_ret
 exact⟨mK hv.out,rfl⟩
def lG (a b:Int):Int:=if qY (gv a) (gv b)=0 then qY a b else qY (gv a) (gv b)
theorem aoT (a b:Int) (w:World):Calls Tryz.prog 133 #[.int .i64 a,.int .i64 b] w fun e w'=>e=.returned (.int .i64 (lG a b))/\w=w':=by
 obtain⟨va,hva⟩: ∃y,gv a=y:=⟨_,rfl⟩;obtain⟨vb,hvb⟩: ∃y,gv b=y:=⟨_,rfl⟩;have HA:=Lib.hid hva;have HB:=Lib.hid hvb;obtain⟨c,hc⟩: ∃y,qY va vb=y:=⟨_,rfl⟩;obtain⟨d,hd⟩: ∃y,qY a b=y:=⟨_,rfl⟩;have HC:=Lib.hid hc;have HD:=Lib.hid hd;by_cases h0:c=0
 · have hv:Hid (d=lG a b):=Lib.hid (by unfold lG;rw[hva,hvb,hc,if_pos h0,hd])
   subst h0;clear hva hvb hc hd
   go_enter Tryz.func133,Tryz.ntmps133
   go_wp2_with fail
   refine(LL a _).mono ?_;rintro e w1 ⟨rfl,rfl⟩;rw[HA.out]
   go_wp2_with fail
   refine(LL b _).mono ?_;rintro e w1 ⟨rfl,rfl⟩;rw[HB.out]
   go_wp2_with fail
   refine(Ep va vb _ 0 HC).mono ?_;rintro e w1 ⟨rfl,rfl⟩
   go_wp2_with fail
   refine(Ep a b _ d HD).mono ?_;rintro e w1 ⟨rfl,rfl⟩
   go_wp2_with fail
   go_ret
   exact⟨mK hv.out,rfl⟩
 · have hv:Hid (c=lG a b):=Lib.hid (by unfold lG;rw[hva,hvb,hc,if_neg h0])
   have hne:(c !=0)=true:=by simp [h0]
   clear hva hvb hc hd
   go_enter Tryz.func133,Tryz.ntmps133
   go_wp2_with fail
   refine(LL a _).mono ?_;rintro e w1 ⟨rfl,rfl⟩;rw[HA.out]
   go_wp2_with fail
   refine(LL b _).mono ?_;rintro e w1 ⟨rfl,rfl⟩;rw[HB.out]
   go_wp2_with fail
   refine(Ep va vb _ c HC).mono ?_;rintro e w1 ⟨rfl,rfl⟩
   go_wp2_with fail
   go_ret
   exact⟨mK hv.out,rfl⟩
theorem uc (a b:Int):ltOf lG a b=decide (gv a<gv b\/(gv a=gv b/\a<b)):=by
 unfold ltOf lG qY;congr 1;apply propext
 repeat' split
 all_goals omega
theorem ap7:Go.Sort.SWO (ltOf lG) where
 irrefl:=fun x=>by rw[uc];exact decide_eq_false (by omega)
 trans:=fun x y z h1 h2=>by rw[uc,decide_eq_true_eq] at h1 h2⊢;omega
 ntrans:=fun x y z h1 h2=>by rw[uc,decide_eq_false_iff_not] at h1 h2⊢;omega
theorem ap3 (x y:Int) (h1:ltOf lG x y=false) (h2:ltOf lG y x=false):x=y:=by rw[uc,decide_eq_false_iff_not] at h1 h2;omega
def pI (a b:Int):Prop:=gv a<gv b\/(gv a=gv b/\a<b)
theorem amt {x y:Int} (h1: ¬pI x y) (h2: ¬pI y x):x=y:=by unfold pI at*;omega
theorem aib (d:Array Int) (N: ∀i j,i<j->j<d.size-> ¬pI d[j]! d[i]!): ∀m,m<=d.size->
  (Go.Lib.compactUpTo d m).Pairwise pI/\(∀x,x∈Go.Lib.compactUpTo d m<-> ∃i,i<m/\d[i]! =x):=by
 intro m
 induction m with
 |zero=>intro _;exact⟨by simp [Go.Lib.compactUpTo],fun x=>by simp [Go.Lib.compactUpTo]⟩
 |succ m ih=>
  intro hm;obtain⟨h1,h2⟩:=ih (by omega)
  rw[Go.Lib.compactUpTo_succ];by_cases hk:Go.Lib.keeps d m=true
  · rw[if_pos hk];refine⟨?_,fun x=>?_⟩
    · rw[List.pairwise_append];refine⟨h1,List.pairwise_singleton _ _,fun a Y b M=>?_⟩;rw[at5] at M;subst M;obtain⟨i,F,rfl⟩:=(h2 a).1 Y;have J:m=0\/d[m]! ≠d[m - 1]! :=by simpa[Go.Lib.keeps] using hk
      have J:d[m]! ≠d[m - 1]! :=J.resolve_left (by omega)
      have n1:=N (m - 1) m (by omega) (by omega)
      have U:pI d[m - 1]! d[m]! :=Classical.byContradiction fun Z=>J (amt n1 Z);by_cases D:i=m - 1
      · rw[D];exact U
      · have n2:=N i (m - 1) (by omega) (by omega)
        unfold pI at*;omega
    · rw[List.mem_append,h2,at5];constructor
      · rintro(⟨i,F,e⟩ |rfl)
        · exact⟨i,by omega,e⟩
        · exact⟨m,by omega,rfl⟩
      · rintro⟨i,F,e⟩;by_cases D:i=m
        · subst D;exact .inr e.symm
        · exact .inl ⟨i,by omega,e⟩
  · have O:Go.Lib.keeps d m=false:=by simpa using hk
    rw[O,if_neg (by simp),List.append_nil]
    refine⟨h1,fun x=>?_⟩;rw[h2];constructor
    · rintro⟨i,F,e⟩;exact⟨i,by omega,e⟩
    · rintro⟨i,F,e⟩;by_cases D:i=m
      · subst D;have: ¬(i=0\/d[i]! ≠d[i - 1]!):=by simpa[Go.Lib.keeps] using O
        rw[not_or,Classical.not_not] at this;exact⟨i - 1,by omega,by rw[<-this.2];exact e⟩
      · exact⟨i,by omega,e⟩
def lh (c:List Int):List Int:=c.mergeSort fun x y=> !(ltOf lG) y x
theorem Qf (c:List Int):(lh c).length=c.length:=List.length_mergeSort _
theorem amY (c:List Int):(lh c).Pairwise fun x y=> ¬pI y x:=by
 have:=List.pairwise_mergeSort (le:=fun x y=> !(ltOf lG) y x)
  (fun a b c h1 h2=>by simp only[Bool.not_eq_true'] at h1 h2⊢;rw[uc,decide_eq_false_iff_not] at h1 h2⊢;omega)
  (fun a b=>by
   rw[uc,uc];by_cases h:gv b<gv a\/(gv b=gv a/\b<a)
   · rw[decide_eq_true h,decide_eq_false (by omega)];rfl
   · rw[decide_eq_false h];rfl) c
 refine this.imp (fun{x y} h=>?_);simp only[Bool.not_eq_true',uc,decide_eq_false_iff_not] at h;exact h
def ll (c:List Int):List Int:=Go.Lib.compact (lh c)
theorem alT (c:List Int):(ll c).Pairwise pI/\(∀x,x∈ll c<->x∈c):=by
 have J: ∀i j,i<j->j<(lh c).toArray.size-> ¬pI (lh c).toArray[j]! (lh c).toArray[i]! :=by
  intro i j M F;have N:j<(lh c).length:=by simpa using F
  have:=(List.pairwise_iff_getElem.1 (amY c)) i j (by omega) N M
  rw[getElem!_pos _ j F,getElem!_pos _ i (by omega)]
  simpa using this
 obtain⟨h1,h2⟩:=aib (lh c).toArray J (lh c).length (by simp)
 refine⟨h1,fun x=>?_⟩;unfold ll Go.Lib.compact;rw[h2,<-(show x∈lh c<->x∈c from List.mem_mergeSort),List.mem_iff_getElem]
 constructor
 · rintro⟨i,D,e⟩;refine⟨i,D,?_⟩;rw[getElem!_pos _ i (by simpa using D)] at e
   simpa using e
 · rintro⟨i,D,e⟩;refine⟨i,D,?_⟩;rw[getElem!_pos _ i (by simpa using D)]
   simpa using e
structure mo (w:World) (base g cap:Nat) (l:List Int):Prop where
 own:w.ownsRow base 3 1 (.slice (some ⟨g,0,none⟩) l.length cap) l.length (aqE l)
 bg:base<=g
 lt:g<w.heap.size
 sx:l.length<=cap
 mx:cap<=maxLen
 holds:Go.Sort.Holds (Value.int .i64) w g 0 l.toArray
theorem Mk {w:World} {base n:Nat} {v:Value} {l:List Int} (h:w.ownsRow base 3 1 v n (l.map (Value.int .i64))) (N:v≠.slice none 0 0): ∃g cap,v=.slice (some ⟨g,0,none⟩) l.length cap/\mo w base g cap l:=by obtain⟨g,cap,rfl,h1,h2,D,F,J,M⟩:=Go.Lib.holds_of_ownsRow h N;subst J;exact⟨g,cap,rfl,h,h1,h2,D,F,M⟩
theorem mo.put {w:World} {base g cap:Nat} {l:List Int} (h:mo w base g cap l) (q k:Nat) (ys:List Int) (J:ys.length=l.length) (hk:k<=l.length):mo (Go.Sort.putRow (Value.int .i64) (Go.Sort.ahead w q) g 0 ys.toArray) base g cap (ys.take k):=by
 have F:=Go.Lib.ownsRow_putRow (q:=q) h.own J hk;obtain⟨N,M,D,hO⟩:=Mk (l:=ys.take k) F (by simp)
 simp only[Value.slice.injEq,Option.some.injEq,Addr.mk.injEq] at D;obtain⟨⟨rfl,_⟩,_,rfl⟩:=D;exact hO
theorem mo.grown {w w':World} {base g cap:Nat} {l:List Int} (h:mo w base g cap l) (F:Below w.heap.size w w'):mo w' base g cap l:=by
 obtain⟨M,J,D,hO⟩:=Mk (ai0 h.own F) (by simp)
 simp only[Value.slice.injEq,Option.some.injEq,Addr.mk.injEq] at D;obtain⟨⟨rfl,_⟩,_,rfl⟩:=D;exact hO
theorem RH (w:World) (os:Array Obj):Below w.heap.size w (Go.Sort.grow w os):=
 ⟨rfl,rfl,rfl,by simp [Go.Sort.grow],fun k hk=>by simp only[Go.Sort.grow];rw[Array.getElem?_append_left hk]⟩
theorem apv (args:Array Value) (w:World):(callFunc 133 args).run Tryz.prog w=.ok (.enter 133 args) w:=
 Go.MuLone.run_callFunc_enter Tryz.func133 (by kernel_rfl) rfl args w
theorem aos (base g cap:Nat) (c:List Int) (w:World) (h:mo w base g cap c) (hlen:c.length<=1000000) (D:World) (F:Below base D w):
  Calls Tryz.prog 132 #[.slice (some ⟨g,0,none⟩) c.length cap,.func (.func 133) #[] #[]] w fun e w'=>e=.returned (.tuple #[])/\mo w' base g cap (lh c)/\Below base D w':=by
 have J:=h.mx;have N:=h.sx;unfold maxLen at J;refine(Any.slices_SortFunc_total Tryz.abX (Value.int .i64) (fun _=>rfl) lG ap7 133 #[] g 0 cap c.toArray w apv ?_ h.holds h.lt (by simp;omega) ap3).mono ?_
 · intro m os M _ x y;refine(aoT x y _).mono ?_;rintro e w' ⟨rfl,rfl⟩;exact⟨rfl,0,#[],by rw[World.drewN_zero,Go.Sort.grow_empty]⟩
 · rintro e w' ⟨rfl,n,os,rfl⟩;refine⟨rfl,?_,?_⟩
   · have h1:=h.put n c.length (lh c) (Qf c) (Nat.le_refl _);rw[<-Qf c,List.take_length] at h1;have e:(c.toArray.toList.mergeSort fun x y=> !(ltOf lG) y x)=lh c:=rfl;rw[e];exact h1.grown (RH _ os)
   · have h1:=Go.Lib.below_putRow (enc:=Value.int .i64) (q:=n) (d:=(c.toArray.toList.mergeSort fun x y=> !(ltOf lG) y x).toArray) F h.bg;refine h1.trans ((RH _ os).mono ?_);rw[Go.Sort.size_putRow];exact Nat.le_trans h.bg (Nat.le_of_lt h.lt)
theorem akV (base g cap:Nat) (c:List Int) (w:World) (h:mo w base g cap c) (D:World) (F:Below base D w):
  Calls Tryz.prog 135 #[.slice (some ⟨g,0,none⟩) c.length cap] w fun e w'=>e=.returned (.slice (some ⟨g,0,none⟩) (Go.Lib.compact c).length cap)/\mo w' base g cap (Go.Lib.compact c)/\Below base D w':=by
 have M:=h.mx;have J:=h.sx;unfold maxLen at M;have hle:=Go.Lib.compact_length_le c;refine(Tryz.slices_Compact_int g 0 cap c w h.holds (by omega) J).mono ?_
 rintro e w' ⟨rfl,q,rfl⟩;refine⟨rfl,?_,Go.Lib.below_putRow F h.bg⟩;have:=h.put q (Go.Lib.compact c).length (Go.Lib.compact c++List.replicate (c.length - (Go.Lib.compact c).length) 0) (by simp;omega) hle
 rwa [List.take_left] at this
theorem apI (g n cap:Nat) (w:World) (hn:n<=cap) (hm:cap<=maxLen):
  Calls Tryz.prog 134 #[.slice (some ⟨g,0,none⟩) n cap] w fun e w'=>e=.returned (.slice (some ⟨g,0,none⟩) n n)/\w=w':=by
 unfold maxLen at hm
 go_enter Tryz.func134,Tryz.ntmps134
 go_wp2_with fail
 go_ret
 exact⟨rfl,rfl⟩
theorem apH (w:World):
  Calls Tryz.prog 134 #[.slice none 0 0] w fun e w'=>e=.returned (.slice none 0 0)/\w=w':=by
 go_enter Tryz.func134,Tryz.ntmps134
 go_wp2_with fail
 go_ret
 exact⟨rfl,rfl⟩
end
theorem arj {w:World} (h:TabOk w.heap[tabB]?):Lib.TabIs Tryz.prog w "internal/strconv.uint64pow10" .u64 Lib.pow10Tab:=by
 obtain⟨e,F,h⟩:=h;have D:Tryz.prog.globalNamed "internal/strconv.uint64pow10" =some tabB:=by kernel_rfl
 unfold Lib.TabIs World.var?;rw[D,Option.bind_some,h]
theorem ape (n:Nat) (h1:n<=9223372036854775807) (w:World) (D:TabOk w.heap[tabB]?):
  Calls Tryz.prog 444 #[.int .i64 (n:Int)] w fun e w'=>e=.returned (.string ⟨(Lib.decDigits n).toArray⟩)/\Below w.heap.size w w':=by
 refine(Tryz.strconv_Itoa (n:Int) (by omega) (by omega) w (arj D)).mono ?_
 rintro e w' ⟨rfl,k,os,rfl⟩;refine⟨?_,(below_drewN (Below.refl _ _) k).trans (show Below w.heap.size _ _ from RH (w.drewN k) os)⟩
 unfold Lib.itoa;rw[if_neg (by omega),as1]
noncomputable def aii:dh Tryz.prog:=mkB 444 ⟨[(0,.c (.v (.int .i64)))],[]⟩ [(false,⟨[(2,.c (.v .str))],[]⟩)] (fun r=>(r,())) (fun x=>strconv_Itoa x.1) (by kernel_rfl) (fun x o h0=>by
 obtain⟨n,u⟩:=x;have h:strconv_Itoa n=some o:=h0;clear h0;unfold strconv_Itoa at h;split at h
 · rename_i D;injection h with h;obtain⟨m,rfl⟩: ∃m:Nat,n=(m:Int):=⟨Int.toNat n,(Int.toNat_of_nonneg D.1).symm⟩;have F:o=Lib.decDigits m:=by rw[<-h,as1,apz]
   subst F;exact abq [.int .i64 (m:Int)] (.string ⟨(Lib.decDigits m).toArray⟩) rfl rfl (fun w J=>ape m (by omega) w J)
 · cases h)
end
end Go.Proofs.YtejhifnjgoclpaaGreatDoor.Fx
