/- Parts of the proofs, put together by a program. -/
import Derived.Test.YtejhifnjgoclpaaGreatDoorE14
import Derived.ChangeArms
import Derived.SizedLaws
set_option linter.unusedVariables false
set_option linter.unusedSimpArgs false
open Nat renaming le_refl->ab8
open Bool renaming and_eq_true->ad0
open List renaming getElem?_eq_getElem->ae6,getElem?_eq_some_iff->as4,drop_zero->au3,getD_eq_getElem?_getD->av4,take_succ_cons->aw3,drop_succ_cons->ax4,getElem?_cons_zero->ax5,take_zero->ax7,getElem?_cons_succ->ax9
namespace Go.Proofs.YtejhifnjgoclpaaGreatDoor.Fx
open Go.RowKit
set_option maxRecDepth 1000000
noncomputable section
section
open Go.WideShapes
theorem lU {H:Type} {enc:TypeId×Value->H} {P:Program} {W:World} {base n:Nat} {sp:Nat->Bool} {held:Bool} {D:Array Field} {l:List Value} {xs:List (DataW H×List MemPlace)}
  (hf: ∀(i:Nat) (f:Field),D[i]? =some f->DataW.trod enc P W base sp held n f.type ((l.drop f.offset).take (P.cellsOf f.type))=xs[i]?) (i:Nat) {f:Field} (J:D[i]? =some f) {t o c:Nat} (h1:f.type=t) (h2:f.offset=o) (F:P.cellsOf t=c):
  DataW.trod enc P W base sp held n t ((l.drop o).take c)=xs[i]? :=by
 subst h1;subst h2;subst F;exact hf i f J
def StrC (w:World) (cs:List Value) (x:List UInt8):Prop:=cs=[.string ⟨x.toArray⟩]
theorem EW {w:World} {v:Value} {l:List (List UInt8)} (h:RowOf 1 StrC w v l):CR ⟨λ_=>undef,λb _=>b<w.heap.size⟩ eU w v (.v (.sl .str) l):=by
 rcases h with⟨a,cap,rfl,rfl,_⟩ |⟨b,off,cap,rfl,h1,h2,F,J⟩
 · exact⟨rfl,a,cap,rfl,.inl rfl⟩
 · refine⟨rfl,_,cap,rfl,.inr ⟨h1,h2,b,off,rfl,λi x D=>⟨F,?_⟩⟩⟩;have L:=(as4.1 D).1;obtain⟨cs,hc,M⟩:=J i L;have:=hc.2 0 (by omega)
   rw[show off+(i*wid .str+0)=off+i*1+0 from rfl]
   rw[this,M];simp [(as4.1 D).2]
section
variable {H:Type} {enc:TypeId×Value->H} {W:World} {base:Nat} {sp:Nat->Bool} {held:Bool}
theorem Fw {n:Nat} {v:Value} {y:DataW H×List MemPlace} (h:DataW.trod enc Tryz.prog W base sp held n 9 [v]=some y): ∃s:ByteArray,v=.string s:=by obtain⟨s,e,_⟩:=DataW.trod_string Tryz.underlying9 h;simp only[List.cons.injEq,and_true] at e;exact⟨s,e⟩
theorem A5:Tryz.prog.cellsOf 9=1:=by kernel_rfl
theorem arR:Tryz.prog.cellsOf 22=1:=by kernel_rfl
theorem aq4:Tryz.prog.cellsOf 24=3:=by kernel_rfl
theorem ach:Tryz.prog.cellsOf 26=4:=by kernel_rfl
theorem amN {n:Nat} {v:Value} {y:DataW H×List MemPlace} (h:DataW.trod enc Tryz.prog W base sp held n 22 [v]=some y): ∃l:List (List UInt8),RowOf 1 StrC W v l:=by
 obtain⟨v',l,e,D⟩:=Xk (α:=List UInt8) (R:=StrC) Tryz.underlying22 A5 (by decide) (λm cs y F=>by obtain⟨s,e,_⟩:=DataW.trod_string Tryz.underlying9 F;exact⟨s.data.toList,e⟩) h
 simp only[List.cons.injEq,and_true] at e;subst e;exact⟨l,D⟩
theorem Yj {n:Nat} {a0 F a2 a3:Value} {y:DataW H×List MemPlace} (h:DataW.trod enc Tryz.prog W base sp held n 26 [a0,F,a2,a3]=some y):
  ∃(p t m:ByteArray) (l:List (List UInt8)),a0=.string p/\F=.string t/\a3=.string m/\RowOf 1 StrC W a2 l:=by
 obtain⟨xs,n,_,J,M,N,hf⟩:=DataW.trod_struct Tryz.underlying26 h;have f0:=lU hf 0 rfl (t:=24) (o:=0) rfl rfl aq4;have f1:=lU hf 1 rfl (t:=9) (o:=3) rfl rfl A5;clear hf M h
 match xs,N,J with
 |[Z,x1],_,J=>
  simp only[ax4,au3,aw3,ax7,ax5,ax9] at f0 f1;obtain⟨m,rfl⟩:=Fw f1;obtain⟨Y,q,_,L,_,O,D⟩:=DataW.trod_struct Tryz.underlying24 f0;have g0:=lU D 0 rfl (t:=9) (o:=0) rfl rfl A5;have g1:=lU D 1 rfl (t:=9) (o:=1) rfl rfl A5;have g2:=lU D 2 rfl (t:=22) (o:=2) rfl rfl arR;clear D
  match Y,O,L with
  |[z0,z1,z2],_,L=>simp only[ax4,au3,aw3,ax7,ax5,ax9] at g0 g1 g2;obtain⟨p,rfl⟩:=Fw g0;obtain⟨t,rfl⟩:=Fw g1;obtain⟨l,U⟩:=amN g2;exact⟨p,t,m,l,rfl,rfl,rfl,U⟩
end
end
section
open Go.WideShapes
theorem RU {t:Ty} {R:World->List Value->den t->Prop} (hR: ∀w cs x,R w cs x->TR (λ_ _=>False) w t (λi v=>cs[i]? =some v) x) {w:World} {v:Value} {l:List (den t)} (h:RowOf (wid t) R w v l):CR ⟨λ_=>undef,λb _=>b<w.heap.size⟩ eU w v (.v (.sl t) l):=by
 rcases h with⟨a,cap,rfl,rfl,_⟩ |⟨b,off,cap,rfl,h1,h2,L,M⟩
 · exact⟨rfl,a,cap,rfl,.inl rfl⟩
 · refine⟨rfl,_,cap,rfl,.inr ⟨h1,h2,b,off,rfl,λi x J=>?_⟩⟩;have N:=(as4.1 J).1;obtain⟨cs,hc,F⟩:=M i N;have e:l[i]=x:=(as4.1 J).2;rw[e] at F;refine TR.mono (λ_ _ _ q=>q.elim) t (λj v D=>⟨L,?_⟩) (hR w cs x F);have:=hc.2 j (by have:=(as4.1 D).1;rw[hc.1] at this;exact this)
   rw[<-D,<-this,Nat.add_assoc]
def IntsC (w:World) (cs:List Value) (x:Int):Prop:=cs=[.int .i64 x]
theorem anG {w:World} {v:Value} {l:List Int} (h:RowOf 1 IntsC w v l):CR ⟨λ_=>undef,λb _=>b<w.heap.size⟩ eU w v (.v (.sl (.int .i64)) l):=RU (t:=.int .i64) (λw cs x h=>by rw[show cs=_ from h];rfl) h
section
variable {H:Type} {enc:TypeId×Value->H} {W:World} {base:Nat} {sp:Nat->Bool} {held:Bool}
theorem intsC_open' (m:Nat) (cs:List Value) (y:DataW H×List MemPlace) (h:DataW.trod enc Tryz.prog W base sp held m 3 cs=some y): ∃x,IntsC W cs x:=by obtain⟨s,e,_⟩:=DataW.trod_int Tryz.underlying3 h;exact⟨s,e⟩
theorem case_open {cs:Array Value} {d:DataW H} {ps:List MemPlace} (h:DataW.Trod enc Tryz.prog W base sp held 26 (.agg cs) d ps):
  ∃(p t m:ByteArray) (J:Value) (O:List (List UInt8)),cs= #[.string p,.string t,J,.string m]/\RowOf 1 StrC W J O:=by
 obtain⟨m,hm⟩:=h;obtain⟨_,_,_,N,F,_,hf⟩:=DataW.trod_struct Tryz.underlying26 hm;obtain⟨l⟩:=cs;have L:l.length=4:=(show l.length=_ from F).trans ach
 obtain⟨a0,D,a2,a3,rfl⟩: ∃a0 D a2 a3,l=[a0,D,a2,a3]:=by
  clear hm F N hf
  match l,L with
  |[a0,D,a2,a3],_=>exact⟨a0,D,a2,a3,rfl⟩
 obtain⟨p,t,m,l,rfl,rfl,rfl,M⟩:=Yj hm;exact⟨p,t,m,a2,l,rfl,M⟩
end
end
def a0W (l:List (List Int)):Option (List Int):=if l.length<=1000000/\l.flatten.length<1000000 then some l.flatten else none
def a1t (l:List Int):Option (List Int):=if l.length<1000000 then some l else none
def a3V:List UInt8:=[105,110,100,101,120,32,109,97,105,110,10,101,110,116,114,121,32,97,32,49,46,48,46,48,32,48,48,48,48,48,48,48,48,48,48,48,48,48,48,97,97,32,45,10,110,101,101,100,32,98,32,42,10]
def a3k:List UInt8:=[101,120,112,108,97,105,110,10,114,111,111,116,32,48,10,110,101,101,100,32,97,32,49,46,48,46,48,32,109,97,105,110,32,48,10,106,111,105,110,32,49,32,50,32,110,97,109,101,32,97,32,49,46,48,46,48,32,109,97,105,110,10]
def a1z:List UInt8:=[97,115,107,115]
def a1A:List UInt8:=[111,110,101]
def a1w:List UInt8:=[119,97,110,116,115]
def a1x:List UInt8:=[108,97,99,107,115]
def a1y:List UInt8:=[102,110,101,101,100]
def a1u:List UInt8:=[102,119,97,110,116,115]
def a3B:List UInt8:=[101,120,112,108,97,105,110]
def a1Z:List UInt8:=[106,111,105,110]
def a3I:List UInt8:=[110,97,109,101]
def a2W:List UInt8:=[110]
def a2O:List UInt8:=[110,110]
def a2P:List UInt8:=[99,118]
def a2Q:List UInt8:=[99,110]
def a2K:List UInt8:=[99,110,110]
def a2R:List UInt8:=[99,102]
def a2M:List UInt8:=[99,102,110]
def a2I:List UInt8:=[99,102,110,110]
def a2L:List UInt8:=[99,110,99]
def a4d:List UInt8:=[101,120,112,108,97,105,110,10,114,111,111,116,32,48,10]
def a4c:List UInt8:=[101,120,112,108,97,105,110,10,114,111,111,116,32,49,10]
def s_a:List UInt8:=[97]
abbrev a0e:=List UInt8
abbrev a0d:=List a0e
abbrev a0R:=Int×Int×Int
abbrev a1i:=a0R×a0e
abbrev a1J:=List (a0e×List (List (Int×a1i))×a0d)
abbrev U_a:=(a0e×a1i×Int×Int×Bool×a1J×a1J×List (a0e×a1J))×a0e
abbrev a0o:=List U_a
abbrev a0t:=a0o×a1J×List (a0e×a0e)
abbrev a0a:=List Int
abbrev a0s:=List a0a
abbrev a0k:=(Int×a0d×a0a)×Int
abbrev a2r:=Value×a0s×Unit
abbrev U_k:=Bool×a0s×a0k×Unit
abbrev a1h:=List (Int×a0d×a0a)
abbrev a0J:=Int×Unit
abbrev a1g:=Int×a0d×a0a×a0J
abbrev a0E:=Option Bool
abbrev a3i:=Bool×a0s×Unit
abbrev a0x:=Value×Unit
abbrev U_t:=Option (a0e×a0k×Unit⊕a0x)
abbrev a2q:=Option (Int×a0k×Unit⊕a0x)
abbrev a3h:=Int×Int×a0d×Unit
abbrev U_w:=Lp (a0a×Int×Int×a0J) (Unit⊕a0J)
abbrev a3g:=a0o×a0t×U_k
abbrev a1I:=Option Int
abbrev a1H:=Option (a0a×a0k×Unit⊕a0x)
abbrev a3O:=Int×a0e×a0e×Int×a0a×a0o×a0t×a1g
def a1q (s:a0e):Option (a1h×a0R):=J (aa .i64 ((s.length:Int)+1))<|(Q2 s ((s.length:Int)+1)).bind λD=>some (D.1,D.2)
def a2A:Option a0d:=some ([[],TA,a1z,a1A,tW,a1w,a1x,a1y,a1u,uj]:a0d)
def a0F (o:a0k):Option (a0k×Unit⊕a0x):=(jD o).bind λD=>bif D.1 then(cr 1 D.2).bind λ(F,_)=>some (.inr (F,())) else some (.inl (D.2,()))
def a0p:Lp (Int×a0e×Int×Int×Int×a1g) (Int×Int×a1g⊕a0x):=λ(Z,U,F,ah,D,L,M,N,O,_)=>bif decide (D<ah) then(ag U D).bind λan=>bif decide ((an.toNat:Int)<48) then(cr 1 ((L,M,N),O)).bind λ(av,_)=>some (.inr (.inr (av,()))) else(ag U D).bind λar=>bif decide (57<(ar.toNat:Int)) then(cr 1 ((L,M,N),O)).bind λ(az,_)=>some (.inr (.inr (az,()))) else J (aa .i64 (10*F))<|(ag U D).bind λY=>J (aa .u8 ((Y.toNat:Int) - 48))<|J (aa .i64 ((10*F)+(IntKind.wrap .i64 ((Y.toNat:Int) - 48))))<|J (aa .i64 (D+1))<|some (.inl (Z,U,((10*F)+(IntKind.wrap .i64 ((Y.toNat:Int) - 48))),ah,(D+1),L,M,N,O,())) else some (.inr (.inl (Z,F,L,M,N,O,())))
def a1Q (L:Int) (o:a0k):a2q:=let J:Int×Int×a1g⊕a0x->a2q:=λF=>match F with|.inl (Z,M,N,O,U,Y,_)=>bif decide (Z<M) then(cr 8 ((N,O,U),Y)).bind λ(aE,_)=>some (.inr (aE,())) else some (.inl (M,((N,O,U),Y),()))|.inr (a1,_)=>some (.inr (a1,()));(fh o).bind λah=>match ah with|.inl (word,D,_)=>bif decide ((word.length:Int)<1) then(cr 1 D).bind λ(pv,_)=>some (.inr (pv,())) else bif decide (9<(word.length:Int)) then(cr 1 D).bind λ(ar,_)=>some (.inr (ar,())) else bif decide (1<(word.length:Int)) then(ag word 0).bind λb=>bif decide ((b.toNat:Int)=48) then(cr 1 D).bind λ(az,_)=>some (.inr (az,())) else(ab a0p (L,word,0,(word.length:Int),0,D.1.1,D.1.2.1,D.1.2.2,D.2,())).bind λF=>J F else(ab a0p (L,word,0,(word.length:Int),0,D.1.1,D.1.2.1,D.1.2.2,D.2,())).bind λan=>J an|.inr (av,_)=>some (.inr (av,()))
def a0M (o:a0k):a2q:=(a1Q 1099511627776 o).bind λF=>match F with|.inl (number,D,_)=>some (.inl (number,D,()))|.inr (J,_)=>some (.inr (J,()))
def a1U (s:a0e):Option (a0e×Bool):=(tB s).bind λD=>some (s,D)
def a1k (o:a0k):U_t:=(fh o).bind λJ=>match J with|.inl (word,F,_)=>(a1U word).bind λD=>bif !D.2 then(cr 1 F).bind λ(L,_)=>some (.inr (L,())) else some (.inl (D.1,F,()))|.inr (M,_)=>some (.inr (M,()))
def a1T (s:a0e):Option (a0e×Bool):=(ql s).bind λD=>some (s,D)
def a1j (o:a0k):U_t:=(fh o).bind λJ=>match J with|.inl (word,F,_)=>(a1T word).bind λD=>bif !D.2 then(cr 1 F).bind λ(L,_)=>some (.inr (L,())) else some (.inl (D.1,F,()))|.inr (M,_)=>some (.inr (M,()))
def a0V (x:U_a) (F:a0e) (D:a1i) (J:a0e):a0E:=bif decide (x.1.1=F) then bif (decide (x.1.2.1.1.1=D.1.1)&&(decide (x.1.2.1.1.2.1=D.1.2.1)&&(decide (x.1.2.1.1.2.2=D.1.2.2)&&decide (x.1.2.1.2=D.2)))) then some (decide (x.2=J)) else some false else some false
def a0S:Lp (a0o×a0e×a1i×a0e×Int×a0J) (Unit⊕a0J):=λ(N,F,L,M,O,D,_)=>bif decide (D<O) then(ag N D).bind λY=>(a0V Y F L M).bind λU=>bif U then some (.inr (.inr (D,()))) else J (aa .i64 (D+1))<|some (.inl (N,F,L,M,O,(D+1),())) else some (.inr (.inl (())))
def a2v (s:a0o) (f:a0e) (D:a1i) (F:a0e):a1I:=(ab a0S (s,f,D,F,(s.length:Int),0,())).bind λo=>match o with|.inl (_)=>some (-1)|.inr (J,_)=>some J
def a1X (l:a0o) (s:a0e) (v:a1i) (source:a0e):a1I:=(a2v l s v source).bind λD=>some D
def a0K (s:a0e) (o:a0o) (F:a0k):a2q:=(IE F).bind λJ=>match J with|.inl (take,O,_)=>((a1j O).bind λL=>match L with|.inl (U,Y,_)=>(a1X o s take U).bind λD=>some (.inl (D,Y,()))|.inr (M,_)=>some (.inr (M,())))|.inr (N,_)=>some (.inr (N,()))
def a1o:U_w:=λ(F,L,M,D,_)=>bif decide (D<M) then(ag F D).bind λN=>bif decide (L=N) then some (.inr (.inr (D,()))) else J (aa .i64 (D+1))<|some (.inl (F,L,M,(D+1),())) else some (.inr (.inl (())))
def a2z (s:a0a) (v:Int):a1I:=(ab a1o (s,v,(s.length:Int),0,())).bind λo=>match o with|.inl (_)=>some (-1)|.inr (D,_)=>some D
def a0U (s:a0a) (v:Int):a0E:=(a2z s v).bind λD=>some (decide (0<=D))
def a1p (x:Int) (D:Int):a0E:=some (decide (x=D))
def a1L:U_w:=λ(L,F,M,D,_)=>bif decide (D<M) then(ag L D).bind λO=>(a1p O F).bind λN=>bif N then some (.inr (.inr (D,()))) else J (aa .i64 (D+1))<|some (.inl (L,F,M,(D+1),())) else some (.inr (.inl (())))
def a2t (s:a0a) (f:Int):a1I:=(ab a1L (s,f,(s.length:Int),0,())).bind λo=>match o with|.inl (_)=>some (-1)|.inr (D,_)=>some D
def a1K:Lp (Int×Int×Int×a0a×Unit) (Int×a0a×Unit):=λ(L,D,j,F,_)=>bif decide (j<(F.length:Int)) then J (0<=j/\j<F.length)<|(F[j.toNat]?).bind λy=>(a1p y L).bind λM=>bif !M then J (0<=D/\D<F.length)<|(F[D.toNat]?).bind λq=>J (aa .i64 (D+1))<|J (aa .i64 (j+1))<|some (.inl (L,(D+1),(j+1),(F.set D.toNat y),())) else J (aa .i64 (j+1))<|some (.inl (L,D,(j+1),F,())) else some (.inr (D,F,()))
def a1M (del:Int) (l:a0a):Option a0a:=(a2t l del).bind λL=>bif decide (L=(-1)) then some l else J (aa .i64 (L+1))<|(ab a1K (del,L,(L+1),l,())).bind λ(D,F,_)=>J (0<=D/\D<=(F.length:Int)/\0<F.length)<|J True<|J (0<=D/\D<=((F.take D.toNat++List.replicate (F.length - D.toNat) 0).length:Int)/\0<(F.take D.toNat++List.replicate (F.length - D.toNat) 0).length)<|some ((F.take D.toNat++List.replicate (F.length - D.toNat) 0).take D.toNat)
def a1s (c:a0a) (lit:Int):Option a0a:=(a1t c).bind λD=>(a1M lit D).bind λF=>some F
def a1W (x:Int) (F:a0a):a0E:=J (aa .i64 (0 - x))<|(a0U F (0 - x)).bind λD=>some D
def a0T:Lp (a0a×a0a×Int×a0J) (Unit⊕a0J):=λ(L,F,M,D,_)=>bif decide (D<M) then(ag L D).bind λO=>(a1W O F).bind λN=>bif N then some (.inr (.inr (D,()))) else J (aa .i64 (D+1))<|some (.inl (L,F,M,(D+1),())) else some (.inr (.inl (())))
def a2w (s:a0a) (f:a0a):a1I:=(ab a0T (s,f,(s.length:Int),0,())).bind λo=>match o with|.inl (_)=>some (-1)|.inr (D,_)=>some D
def a2u (s:a0a) (f:a0a):a0E:=(a2w s f).bind λD=>some (decide (0<=D))
def a1Y (c:a0a):a0E:=(a2u c c).bind λD=>some D
def a0O (a:a0a) (b:a0a) (v:Int):Option (a0a×Int):=bif decide (v<1) then some ([],9) else(a0U a v).bind λL=>bif !L then some ([],9) else J (aa .i64 (0 - v))<|(a0U b (0 - v)).bind λM=>bif !M then some ([],9) else(a1s a v).bind λO=>J (aa .i64 (0 - v))<|(a1s b (0 - v)).bind λU=>(a0W ([O,U]:a0s)).bind λF=>(a0X F).bind λD=>(a1Y D).bind λN=>bif N then some ([],9) else some (D,0)
def a1O (o:a0o) (aE:a0t) (l:a0s) (a7:a0k):a1H:=let M:a0k->a1H:=λL=>(cr 4 L).bind λ(pv,_)=>some (.inr (pv,()));let ah:a0a×Int->a0k->a1H:=λN L=>bif !decide (N.2=0) then(cr 9 L).bind λ(b8,_)=>some (.inr (b8,())) else some (.inl (N.1,L,()));let an:Int->Int->Int->a0k->a1H:=λD F O U=>(a0F U).bind λb1=>match b1 with|.inl (L,_)=>bif decide (D<1) then M L else bif decide (F<1) then M L else bif decide ((l.length:Int)<D) then M L else bif decide ((l.length:Int)<F) then M L else bif decide (O=0) then M L else J (aa .i64 (D - 1))<|J (0<=(D - 1)/\(D - 1)<l.length)<|(l[(D - 1).toNat]?).bind λy=>J (aa .i64 (F - 1))<|J (0<=(F - 1)/\(F - 1)<l.length)<|(l[(F - 1).toNat]?).bind λc4=>(a0O y c4 O).bind λN=>bif !decide (N.2=0) then J (aa .i64 (F - 1))<|J (0<=(F - 1)/\(F - 1)<l.length)<|(l[(F - 1).toNat]?).bind λc5=>J (aa .i64 (D - 1))<|J (0<=(D - 1)/\(D - 1)<l.length)<|(l[(D - 1).toNat]?).bind λc6=>(a0O c5 c6 O).bind λcd=>ah cd L else ah N L|.inr (b9,_)=>some (.inr (b9,()));(a0M a7).bind λa8=>match a8 with|.inl (D,av,_)=>((a0M av).bind λbb=>match bb with|.inl (F,az,_)=>((fh az).bind λbp=>match bp with|.inl (word,Y,_)=>(bif decide (word=a3I) then(a1k Y).bind λbx=>match bx with|.inl (U,ch,_)=>((a0K U o ch).bind λb0=>match b0 with|.inl (Z,ar,_)=>J (aa .i64 (Z+1))<|an D F (Z+1) ar|.inr (ca,_)=>some (.inr (ca,())))|.inr (cc,_)=>some (.inr (cc,())) else bif decide (word=oX) then(a1k Y).bind λa1=>match a1 with|.inl (cj,cp,_)=>((a1j cp).bind λa6=>match a6 with|.inl (cx,c3,_)=>(qe aE (cj,cx)).bind λO=>an D F O c3|.inr (b2,_)=>some (.inr (b2,())))|.inr (b3,_)=>some (.inr (b3,())) else(cr 1 Y).bind λ(b4,_)=>some (.inr (b4,())))|.inr (b5,_)=>some (.inr (b5,())))|.inr (b6,_)=>some (.inr (b6,())))|.inr (b7,_)=>some (.inr (b7,()))
def a1r:Option a0d:=some ([[],a2W,a2O,a2P,a2Q,a2K,a2R,a2M,a2I,a2L]:a0d)
def a0m:Lp a3O (Int×a0a×a0t×a1g⊕a0x):=λ(a1,O,ar,av,ah,D,Z,F,L,M,N,_)=>let Y:Int×a0k×Unit⊕a0x->a0e->Option (a3O⊕Int×a0a×a0t×a1g⊕a0x):=λaz an=>match az with|.inl (a6,U,_)=>J (ah.length+([a6]:a0a).length<=1000000000)<|some (.inl (a1,an,ar,(av+1),(ah++([a6]:a0a)),D,Z,U.1.1,U.1.2.1,U.1.2.2,U.2,()))|.inr (bx,_)=>some (.inr (.inr (bx,())));bif decide (av<(ar.length:Int)) then(ag ar av).bind λb=>J (b.toNat<128)<|bif decide ((b.toNat:Int)=110) then(a0M ((F,L,M),N)).bind λa7=>Y a7 O else bif decide ((b.toNat:Int)=99) then(a1k ((F,L,M),N)).bind λa8=>match a8 with|.inl (an,b2,_)=>(a0K an D b2).bind λaz=>Y az an|.inr (b0,_)=>some (.inr (.inr (b0,()))) else bif decide ((b.toNat:Int)=118) then(a0K O D ((F,L,M),N)).bind λbb=>Y bb O else bif decide ((b.toNat:Int)=102) then(a1j ((F,L,M),N)).bind λbp=>match bp with|.inl (b3,b4,_)=>(qe Z (O,b3)).bind λaE=>J (aa .i64 (aE - (D.length:Int)))<|J (aa .i64 ((aE - (D.length:Int)) - 1))<|Y (.inl (((aE - (D.length:Int)) - 1),b4,())) O|.inr (b1,_)=>some (.inr (.inr (b1,()))) else some (.inl (a1,O,ar,(av+1),ah,D,Z,F,L,M,N,())) else some (.inr (.inl (a1,ah,Z,F,L,M,N,())))
def a1P (M:Int) (o:a0o) (O:a0t) (F:a0k):a1H:=a1r.bind λN=>(ag N M).bind λa6=>(ab a0m (M,[],a6,0,[],o,O,F.1.1,F.1.2.1,F.1.2.2,F.2,())).bind λU=>match U with|.inl (a7,D,Y,Z,ah,an,ar,_)=>((a0F ((Z,ah,an),ar)).bind λav=>match av with|.inl (end_,_)=>J (D.length+([0,0,0]:a0a).length<=1000000000)<|J (0<=(0:Int)/\(0:Int)<(D++([0,0,0]:a0a)).length)<|((D++([0,0,0]:a0a))[(0:Int).toNat]?).bind λy=>J (0<=(1:Int)/\(1:Int)<(D++([0,0,0]:a0a)).length)<|((D++([0,0,0]:a0a))[(1:Int).toNat]?).bind λa8=>J (0<=(2:Int)/\(2:Int)<(D++([0,0,0]:a0a)).length)<|((D++([0,0,0]:a0a))[(2:Int).toNat]?).bind λbb=>J (0<=(3:Int)/\(3:Int)<(D++([0,0,0]:a0a)).length)<|((D++([0,0,0]:a0a))[(3:Int).toNat]?).bind λbp=>(fg Y (a7,y,a8,bb,bp)).bind λL=>bif !L.2 then(cr 4 end_).bind λ(az,_)=>some (.inr (az,())) else some (.inl (L.1,end_,()))|.inr (aE,_)=>some (.inr (aE,())))|.inr (a1,_)=>some (.inr (a1,()))
def a1N (o:a0o) (F:a0t) (L:Bool) (l:a0s) (ah:a0k):Option (a3g⊕a2r):=let O:a0a×a0k×Unit⊕a0x->Option (a3g⊕a2r):=λM=>match M with|.inl (join,Y,_)=>J (l.length+([join]:a0s).length<=1000000000)<|some (.inl (o,F,L,(l++([join]:a0s)),Y,()))|.inr (aE,_)=>some (.inr (aE,l,()));(fh ah).bind λan=>match an with|.inl (word,D,_)=>(a2A.bind λZ=>(nJ Z word).bind λN=>let U:Option (a3g⊕a2r):=bif !L then(cr 1 D).bind λ(az,_)=>some (.inr (az,l,())) else bif decide (word=a1Z) then(a1O o F l D).bind λM=>O M else bif decide (1<=N) then(a1P N o F D).bind λav=>O av else(cr 1 D).bind λ(a1,_)=>some (.inr (a1,l,()));bif !L then bif decide (word=a3B) then(a0F D).bind λar=>match ar with|.inl (end_,_)=>some (.inl (o,F,true,l,end_,()))|.inr (pv,_)=>some (.inr (pv,l,())) else U else U)|.inr (a6,_)=>some (.inr (a6,l,()))
def a0y:Lp (a1h×Int×Int×a0o×a0t×a3i) (a0o×a0t×a3i⊕a2r):=λ(Y,Z,F,O,U,M,N,_)=>bif decide (F<Z) then(ag Y F).bind λa1=>(a1N O U M N (a1,0)).bind λaz=>match az with|.inl (line,ah,an,L,ar,_)=>(jD ar).bind λD=>bif D.1 then J (aa .i64 (D.2.2+1))<|(cr 1 (D.2.1,(D.2.2+1))).bind λ(pv,_)=>some (.inr (.inr (pv,L,()))) else J (aa .i64 (F+1))<|some (.inl (Y,Z,(F+1),line,ah,an,L,()))|.inr (aE,av,_)=>some (.inr (.inr (aE,av,()))) else some (.inr (.inl (O,U,M,N,())))
def a2y (l:a1h) (o:a0o) (F:a0t) (Y:Bool) (D:a0s):Option (a0R×a0o×a0t×a3i⊕a0R×a0s×Unit):=(ab a0y (l,(l.length:Int),0,o,F,Y,D,())).bind λJ=>match J with|.inl (L,M,N,O,_)=>some (.inl ((0,0,0),L,M,N,O,()))|.inr (Z,U,_)=>(rZ Z).bind λq=>some (.inr (q,U,()))
def a0N (x:a0e) (U:a0o) (x2:a1J):Option a0R:=let Y:a0R->a0s->Option a0R:=λF D=>bif !((decide (F.1=0)&&(decide (F.2.1=0)&&decide (F.2.2=0)))) then some (F.1,F.2.1,0) else bif decide ((D.length:Int)=0) then some (9,0,0) else J (aa .i64 ((D.length:Int) - 1))<|J (0<=((D.length:Int) - 1)/\((D.length:Int) - 1)<D.length)<|(D[((D.length:Int) - 1).toNat]?).bind λy=>bif decide (0<(y.length:Int)) then some (9,0,0) else some (0,0,0);(a1q x).bind λL=>bif !((decide (L.2.1=0)&&(decide (L.2.2.1=0)&&decide (L.2.2.2=0)))) then some (L.2.1,L.2.2.1,0) else(zF U x2).bind λo=>match o with|.inl (new,N,_)=>(bif !decide (N=0) then some (N,0,0) else(a2y L.1 U new false []).bind λZ=>match Z with|.inl (F,ah,an,ar,D,_)=>Y F D|.inr (M,av,_)=>bif !((decide (M.1=0)&&(decide (M.2.1=0)&&decide (M.2.2=0)))) then some (M.1,M.2.1,0) else none)|.inr (O,_)=>bif !decide (O=0) then some (O,0,0) else none
def a3u (w:a0d):Option a0d:=let F:Option a0d:=bif decide (3<(w.length:Int)) then(ag w 0).bind λU=>bif !decide (U=a1Z) then(ag w 1).bind λD=>J (([D]:a0d).length<=1000000000)<|bif decide (5<(w.length:Int)) then(ag w 0).bind λY=>bif decide (Y=uj) then(ag w 5).bind λL=>J (([D]:a0d).length+([L]:a0d).length<=1000000000)<|some (([D]:a0d)++([L]:a0d)) else some ([D]:a0d) else some ([D]:a0d) else bif decide (5<(w.length:Int)) then(ag w 0).bind λZ=>bif decide (Z=uj) then(ag w 5).bind λM=>J (([M]:a0d).length<=1000000000)<|some ([M]:a0d) else some [] else some [] else bif decide (5<(w.length:Int)) then(ag w 0).bind λah=>bif decide (ah=uj) then(ag w 5).bind λN=>J (([N]:a0d).length<=1000000000)<|some ([N]:a0d) else some [] else some [];bif decide (4<(w.length:Int)) then(ag w 0).bind λO=>bif decide (O=a1Z) then J (0<=(4:Int)/\(4:Int)<=(5:Int)/\(5:Int)<=w.length)<|some ((w.take (5:Int).toNat).drop (4:Int).toNat) else F else F
def a4n:Lp (a1h×Int×Int×a0d×a3h) (a1h×a3h):=λ(L,M,N,O,U,D,F,_)=>bif decide (D<U) then(ag O D).bind λY=>(p8 F Y).bind λZ=>bif !Z then J (F.length+([Y]:a0d).length<=1000000000)<|J (aa .i64 (D+1))<|some (.inl (L,M,N,O,U,(D+1),(F++([Y]:a0d)),())) else J (aa .i64 (D+1))<|some (.inl (L,M,N,O,U,(D+1),F,())) else some (.inr (L,M,N,F,()))
def a4m:Lp (a1h×a3h) (a0d×Unit):=λ(M,N,D,L,_)=>bif decide (D<N) then(ag M D).bind λah=>(a3u ah.2.1).bind λF=>(ab a4n (M,N,D,F,(F.length:Int),0,L,())).bind λ(Y,Z,O,U,_)=>J (aa .i64 (O+1))<|some (.inl (Y,Z,(O+1),U,())) else some (.inr (L,()))
def a3v (text:a0e):Option a0d:=(a1q text).bind λD=>(ab a4m (D.1,(D.1.length:Int),0,[],())).bind λ(F,_)=>some F
def a4x:Lp (a0d×a0d×a0J) (Unit⊕Unit):=λ(D,F,i,_)=>bif decide (i<(D.length:Int)) then(ag D i).bind λL=>(ag F i).bind λM=>bif !decide (L=M) then some (.inr (.inr (()))) else J (aa .i64 (i+1))<|some (.inl (D,F,(i+1),())) else some (.inr (.inl (())))
def a3C (a:a0d) (b:a0d):a0E:=bif !decide ((a.length:Int)=(b.length:Int)) then some false else(ab a4x (a,b,0,())).bind λo=>match o with|.inl (_)=>some true|.inr (_)=>some false
def a0L:a0E:=(vJ ((agi,s_t,([a3V]:a0d)),agA)).bind λD=>bif !D.2 then some false else(a0N a3k D.1.1 D.1.2.1).bind λF=>bif (decide (F.1=0)&&(decide (F.2.1=0)&&decide (F.2.2=0))) then(a0N a4d D.1.1 D.1.2.1).bind λJ=>bif (decide (J.1=9)&&(decide (J.2.1=0)&&decide (J.2.2=0))) then(a0N a4c D.1.1 D.1.2.1).bind λL=>bif (decide (L.1=4)&&(decide (L.2.1=2)&&decide (L.2.2=0))) then(a3v a3k).bind λM=>(a3C M ([s_a]:a0d)).bind λN=>some N else some false else some false else some false
def a1R (c:(a0e×a0e×a0d)×a0e) (s:a0e) (choice:a0a):a0E:=(vJ c).bind λD=>a0L.bind λJ=>bif !J then a0L.bind λL=>some L else bif !D.2 then a0L.bind λM=>some M else bif decide (5000<(s.length:Int)) then a0L.bind λN=>some N else bif decide (60<(choice.length:Int)) then a0L.bind λO=>some O else(a0N s D.1.1 D.1.2.1).bind λF=>bif !((decide (F.1=0)&&(decide (F.2.1=0)&&decide (F.2.2=0)))) then some true else(Lk D.1.2.2.1 D.1.2.2.2 300).bind λU=>bif !U.2.1 then(Mc D.1.2.2.1 D.1.2.2.2 choice).bind λY=>some (!decide (Y=0)) else some false
section
open Go.Sort
theorem a4H {c:Cx} {h:Hp} {w:World} (l:List Int):ay (CR c h w) (l.map (Value.int .i64)) (aT (.int .i64) l):=by
 induction l with
 |nil=>exact .nil
 |cons x l D=>exact .cons ⟨rfl,rfl⟩ D
theorem a4L (l:List Int) (O:l.length<1000000):fo Tryz.prog 131 [.c (.v (.sl (.int .i64)) l)] [] (.ret (.c (.ow 1 0 .all)) [(1,.row [] 3 (.int .i64) l)]):=by
 intro c w vals hC N;obtain⟨v0,rfl,_,a,cap,rfl,F⟩:=As N
 have fin: ∀v' w',w'.ownsRow w.heap.size 3 1 v' l.length (l.map (Value.int .i64))->Below w.heap.size w w'-> ∃c',ve (dW w c (aj [])) (.returned v') c' w' (.ret (.c (.ow 1 0 .all)) [(1,.row [] 3 (.int .i64) l)]):=λv' w' L J=>by
  obtain⟨c',g1,g2⟩:=hC.arq J (k:=1) rfl rfl (e:=3) (t:=.int .i64) (by decide) (l:=l) L (a4H l)
  have e:bY (aj []) 1 (some (aX.row [] 3 (.int .i64) l))=aj [(1,.row [] 3 (.int .i64) l)]:=(jh [] 1 _).symm;rw[e] at g1 g2;exact⟨c',v',rfl,g1,g2⟩
 by_cases h0:l=[]
 · subst h0;cases a with
   |none=>refine(Tryz.slices_Clone_int_nil 0 cap w).mono ?_;rintro e w' ⟨rfl,rfl⟩;exact fin _ _ ⟨rfl,.inl ⟨rfl,rfl⟩⟩ (Below.refl _ _)
   |some ad=>refine(Tryz.slices_Clone_int_zero ad cap w).mono ?_;rintro e w' ⟨v',rfl,h1,_,h2⟩;exact fin _ _ h1 h2
 · obtain⟨hle,_,b,off,rfl,M⟩:=F.resolve_left h0;refine(Tryz.slices_Clone_int b off l.length cap l w (ab8 _) (by omega) (λj D=>?_)).mono ?_
   · have:=(M j l[j] (ae6 D)).2;rw[show off+(j*wid (.int .i64)+0)=off+j by simp [wid]] at this
     rw[this];simp [av4,D]
   · rintro e w' ⟨v',rfl,g1,_,g2⟩;rw[List.take_length] at g1;exact fin _ _ g1 g2
noncomputable def a4u:dh Tryz.prog:=mkB 131 ⟨[(0,.c (.v (.sl (.int .i64))))],[]⟩ [(false,⟨[(2,.c (.own 1))],[(1,.row 3 (.int .i64))]⟩)] (λr=>(r,())) (λx=>a1t x.1) (by kernel_rfl) (λx o h0=>by
 obtain⟨l,u⟩:=x;have h:a1t l=some o:=h0;unfold a1t at h;split at h
 · rename_i D;obtain rfl:l=o:=Option.some.inj h;exact a4L l D
 · cases h)
theorem a4G (cap:Nat) (w:World):Calls Tryz.prog 58 #[.slice none 0 cap] w λe w'=>e=.returned (.slice none 0 0)/\w=w':=by
 go_enter Tryz.func58,Tryz.ntmps58
 go_wp2_with fail
 refine(Tryz.slices_Clone_int_nil 0 cap _).mono ?_;rintro e w1 ⟨rfl,rfl⟩
 go_wp2_with fail
 refine(AnyF.slices_SortFunc_none {Tryz.abX with} none 0 _ _).mono ?_
 rintro e w1 ⟨rfl,rfl⟩
 go_wp2_with fail
 refine(Tryz.slices_Compact_int_empty none 0 _).mono ?_;rintro e w1 ⟨rfl,rfl⟩
 go_wp2_with fail
 refine(apH _).mono ?_;rintro e w1 ⟨rfl,rfl⟩
 go_wp2_with fail
 go_ret
 exact⟨rfl,rfl⟩
theorem a4P (l:List Int) (F:l.length<=1000000):fo Tryz.prog 58 [.c (.v (.sl (.int .i64)) l)] [] (.ret (.c (.v (.sl (.int .i64)) (ll l))) []):=by
 intro c w vals hC Y;obtain⟨v0,rfl,_,a,cap,rfl,N⟩:=As Y
 have fin: ∀w' g D,mo w' w.heap.size g D (ll l)->Below w.heap.size w w'-> ∃c',ve (dW w c (aj [])) (.returned (.slice (some ⟨g,0,none⟩) (ll l).length (ll l).length)) c' w' (.ret (.c (.v (.sl (.int .i64)) (ll l))) []):=λw' g D hO O=>by
  obtain⟨g1,g2⟩:=hC.Gw (iB.tO O) (λb i=>c.A b i\/b=g) (λb i h=>.inl h) (λb i h=>h.elim .inl (λh=>.inr (by rw[h];exact⟨hO.bg,hO.lt⟩)))
  refine⟨_,_,rfl,g1,rfl,_,_,rfl,.inr ⟨ab8 _,Nat.le_trans hO.sx hO.mx,g,0,rfl,λi x M=>⟨.inr rfl,?_⟩⟩⟩;have J:=(as4.1 M).1;have:=(hO.holds i (by simpa using J)).1
  rw[show 0+(i*wid (.int .i64)+0)=0+i by simp [wid],this]
  simp [J,(as4.1 M).2]
 by_cases h0:l=[]
 · subst h0;cases a with
   |none=>
    refine(a4G cap w).mono ?_;rintro e w' ⟨rfl,rfl⟩;have e:ll []=[]:=QY (l:=[]) (λx h=>by cases h)
    exact⟨c,_,rfl,hC,rfl,none,0,by rw[e];rfl,.inl e⟩
   |some ad=>refine(alU ad cap [] w (amk ad cap w) F).mono ?_;rintro e w' ⟨g,D,rfl,h1,h2⟩;exact fin w' g D h1 h2
 · obtain⟨hle,_,b,off,rfl,U⟩:=N.resolve_left h0;refine(alU ⟨b,off,none⟩ cap l w (akZ b off cap l w F (λj L=>?_)) F).mono ?_
   · have:=(U j l[j] (ae6 L)).2;rw[show off+(j*wid (.int .i64)+0)=off+j by simp [wid]] at this
     rw[this];simp [av4,L]
   · rintro e w' ⟨g,D,rfl,h1,h2⟩;exact fin w' g D h1 h2
noncomputable def a4B:dh Tryz.prog:=mkB 58 ⟨[(0,.c (.v (.sl (.int .i64))))],[]⟩ [(false,⟨[(2,.c (.v (.sl (.int .i64))))],[]⟩)] (λr=>(r,())) (λx=>a0X x.1) (by kernel_rfl) (λx o h0=>by
 obtain⟨l,u⟩:=x;have h:a0X l=some o:=h0;unfold a0X at h;split at h
 · rename_i D;obtain rfl:bV l=o:=Option.some.inj h;rw[ad0,decide_eq_true_eq] at D;have hk: ∀x∈l,-1000000<=x/\x<=1000000:=λx F=>by have:=List.all_eq_true.1 D.1 x F;rw[ad0,decide_eq_true_eq,decide_eq_true_eq] at this;exact this
   have:=a4P l D.2;rw[QY hk] at this;exact this
 · cases h)
end
end
end Go.Proofs.YtejhifnjgoclpaaGreatDoor.Fx
