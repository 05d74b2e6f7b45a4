/- Parts of the proofs, put together by a program. -/
import Derived.Test.YtejhifnjgoclpaaGreatDoorS29
import Derived.ChangeArms
import Derived.SizedLaws
set_option linter.unusedVariables false
set_option linter.unusedSimpArgs false
open List renaming drop_zero->av0,getElem?_eq_some_iff->av7,take_succ_cons->ay0,take_zero->ay9,drop_succ_cons->az7,getElem?_cons_zero->az8,getElem?_cons_succ->aA2
namespace Go.Proofs.YtejhifnjgoclpaaGreatDoor.Fx
open Go.RowKit
set_option maxRecDepth 1000000
noncomputable section
section
open Go.WideShapes
theorem lU {H:Type} {enc:TypeId×Value->H} {P:Program} {W:World} {base n:Nat} {sp:Nat->Bool} {held:Bool} {D:Array Field} {l:List Value} {xs:List (DataW H×List MemPlace)}
  (hf: ∀(i:Nat) (f:Field),D[i]? =some f->DataW.trod enc P W base sp held n f.type ((l.drop f.offset).take (P.cellsOf f.type))=xs[i]?) (i:Nat) {f:Field} (J:D[i]? =some f) {t o c:Nat} (h1:f.type=t) (h2:f.offset=o) (F:P.cellsOf t=c):
  DataW.trod enc P W base sp held n t ((l.drop o).take c)=xs[i]? :=by
 subst h1;subst h2;subst F;exact hf i f J
def StrC (w:World) (cs:List Value) (x:List UInt8):Prop:=cs=[.string ⟨x.toArray⟩]
theorem EW {w:World} {v:Value} {l:List (List UInt8)} (h:RowOf 1 StrC w v l):CR ⟨fun _=>undef,fun b _=>b<w.heap.size⟩ eU w v (.v (.sl .str) l):=by
 rcases h with⟨a,cap,rfl,rfl,_⟩ |⟨b,off,cap,rfl,h1,h2,F,J⟩
 · exact⟨rfl,a,cap,rfl,.inl rfl⟩
 · refine⟨rfl,_,cap,rfl,.inr ⟨h1,h2,b,off,rfl,fun i x D=>⟨F,?_⟩⟩⟩;have M:=(av7.1 D).1;obtain⟨cs,hc,N⟩:=J i M;have:=hc.2 0 (by omega)
   rw[show off+(i*wid .str+0)=off+i*1+0 from rfl]
   rw[this,N];simp [(av7.1 D).2]
section
variable {H:Type} {enc:TypeId×Value->H} {W:World} {base:Nat} {sp:Nat->Bool} {held:Bool}
theorem Fw {n:Nat} {v:Value} {y:DataW H×List MemPlace} (h:DataW.trod enc Tryz.prog W base sp held n 9 [v]=some y): ∃s:ByteArray,v=.string s:=by obtain⟨s,e,_⟩:=DataW.trod_string Tryz.underlying9 h;simp only[List.cons.injEq,and_true] at e;exact⟨s,e⟩
theorem A5:Tryz.prog.cellsOf 9=1:=by kernel_rfl
theorem arR:Tryz.prog.cellsOf 22=1:=by kernel_rfl
theorem aq4:Tryz.prog.cellsOf 24=3:=by kernel_rfl
theorem ach:Tryz.prog.cellsOf 26=4:=by kernel_rfl
theorem amN {n:Nat} {v:Value} {y:DataW H×List MemPlace} (h:DataW.trod enc Tryz.prog W base sp held n 22 [v]=some y): ∃l:List (List UInt8),RowOf 1 StrC W v l:=by
 obtain⟨v',l,e,D⟩:=Xk (α:=List UInt8) (R:=StrC) Tryz.underlying22 A5 (by decide) (fun m cs y F=>by obtain⟨s,e,_⟩:=DataW.trod_string Tryz.underlying9 F;exact⟨s.data.toList,e⟩) h
 simp only[List.cons.injEq,and_true] at e;subst e;exact⟨l,D⟩
theorem Yj {n:Nat} {a0 F a2 a3:Value} {y:DataW H×List MemPlace} (h:DataW.trod enc Tryz.prog W base sp held n 26 [a0,F,a2,a3]=some y):
  ∃(p t m:ByteArray) (l:List (List UInt8)),a0=.string p/\F=.string t/\a3=.string m/\RowOf 1 StrC W a2 l:=by
 obtain⟨xs,n,_,J,N,O,hf⟩:=DataW.trod_struct Tryz.underlying26 h;have f0:=lU hf 0 rfl (t:=24) (o:=0) rfl rfl aq4;have f1:=lU hf 1 rfl (t:=9) (o:=3) rfl rfl A5;clear hf N h
 match xs,O,J with
 |[x0,x1],_,J=>
  simp only[az7,av0,ay0,ay9,az8,aA2] at f0 f1;obtain⟨m,rfl⟩:=Fw f1;obtain⟨Z,q,_,M,_,U,D⟩:=DataW.trod_struct Tryz.underlying24 f0;have g0:=lU D 0 rfl (t:=9) (o:=0) rfl rfl A5;have g1:=lU D 1 rfl (t:=9) (o:=1) rfl rfl A5;have g2:=lU D 2 rfl (t:=22) (o:=2) rfl rfl arR;clear D
  match Z,U,M with
  |[z0,z1,z2],_,M=>simp only[az7,av0,ay0,ay9,az8,aA2] at g0 g1 g2;obtain⟨p,rfl⟩:=Fw g0;obtain⟨t,rfl⟩:=Fw g1;obtain⟨l,Y⟩:=amN g2;exact⟨p,t,m,l,rfl,rfl,rfl,Y⟩
end
end
end
end Go.Proofs.YtejhifnjgoclpaaGreatDoor.Fx
