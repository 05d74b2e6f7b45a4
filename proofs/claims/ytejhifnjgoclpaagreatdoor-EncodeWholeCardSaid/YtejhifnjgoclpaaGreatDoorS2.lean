/- Parts of the proofs, put together by a program. -/
import Derived.Test.YtejhifnjgoclpaaGreatDoorS1
import Derived.Deep.Slices
import Derived.Deep.Fields
import Derived.Lib.SmallJoins
set_option linter.unusedVariables false
set_option linter.unusedSimpArgs false
open List renaming getElem?_eq_getElem->ae9
namespace Go.Proofs.YtejhifnjgoclpaaGreatDoor
open Go.RowKit Go.ChangeShapes Go.WideShapes Go.Deep
def Cells (w:World) (b off n:Nat) (cs:List Value):Prop:=cs.length=n/\ ∀j,j<n->w.cell? ⟨b,off+j,none⟩=cs[j]?
def RowOf {α:Type} (n:Nat) (R:World->List Value->α->Prop) (w:World) (v:Value) (l:List α):Prop:=
 (∃a cap,v=.slice a 0 cap/\l=[]/\cap<=maxLen)\/
 ∃b off cap,v=.slice (some ⟨b,off,none⟩) l.length cap/\l.length<=cap/\cap<=maxLen/\b<w.heap.size/\ ∀(i:Nat) (h:i<l.length),∃cs,Cells w b (off+i*n) n cs/\R w cs l[i]
theorem RowOf.len {α:Type} {n:Nat} {R:World->List Value->α->Prop} {w:World} {v:Value} {l:List α} (h:RowOf n R w v l):l.length<=maxLen:=by
 rcases h with⟨_,_,_,rfl,_⟩ |⟨_,_,_,_,h1,h2,_⟩
 · simp
 · exact Nat.le_trans h1 h2
theorem RowOf.at_ {α:Type} {n:Nat} {R:World->List Value->α->Prop} {w:World} {a:Option Addr} {len cap:Nat} {l:List α} (h:RowOf n R w (.slice a len cap) l) (i:Nat) (D:i<l.length):
  ∃b off,a=some ⟨b,off,none⟩/\b<w.heap.size/\ ∃cs,Cells w b (off+i*n) n cs/\R w cs l[i]:=by
 rcases h with⟨_,_,_,rfl,_⟩ |⟨b,off,M,F,_,_,J,hc⟩
 · simp at D
 · simp only[Value.slice.injEq] at F;exact⟨b,off,F.1,J,hc i D⟩
section
variable {H:Type} {enc:TypeId×Value->H} {P:Program} {w:World} {base:Nat} {spare:Nat->Bool} {held:Bool}
theorem Xk {α:Type} [Inhabited α] {R:World->List Value->α->Prop} {t e:TypeId} {n fuel:Nat} {cs:List Value} {x:DataW H×List MemPlace} (ht:P.underlying t=some (.slice e)) (hC:P.cellsOf e=n) (U:0<n)
  (hR: ∀m cs y,DataW.trod enc P w base spare held m e cs=some y-> ∃x:α,R w cs x)
  (h:DataW.trod enc P w base spare held fuel t cs=some x): ∃(v:Value) (l:List α),cs=[v]/\RowOf n R w v l:=by
 rcases open_slice ht h with⟨rfl,_⟩ |⟨a,len,cap,m,k,D,Pl,rfl,hb,hl,hm,ar,O,hi⟩
 · exact⟨_,[],rfl,.inl ⟨_,_,rfl,rfl,by omega⟩⟩
 · refine⟨.slice (some a) len cap,?_⟩;by_cases h0:len=0
   · subst h0;exact⟨[],rfl,.inl ⟨_,_,rfl,rfl,hm⟩⟩
   · have aE:len<=m:=by rw[ar];split<;>omega
     have Z: ∀i,i<len-> ∃x:α,∃F,(F.length=n/\ ∀j,j<n->w.cell? ((a.add (i*n)).add j)=F[j]?)/\R w F x:=fun i N=>by
      obtain⟨F,hc,az⟩:=hi i (by omega)
      rw[hC] at hc;obtain⟨_,M,J⟩:=World.cells?_some hc;obtain⟨x,O⟩:=hR _ _ _ az;exact⟨x,F,⟨M,J⟩,O⟩
     obtain⟨f,hf⟩:=choose_lt Z;obtain⟨b,off,spot⟩:=a
     have av:spot=none:=by
      obtain⟨F,⟨M,J⟩,_⟩:=hf 0 (by omega)
      have h1:=J 0 U;have h2:F[0]? =some (F[0]'(by omega)):=ae9 (by omega)
      rw[h2] at h1;simpa[Addr.add] using World.cell?_spot h1
     subst av;have Y: ∀k,(⟨b,off,none⟩:Addr).add k=⟨b,off+k,none⟩:=fun k=>by unfold Addr.add;by_cases hk:k=0<;>simp [hk]
     have J: ∀i,i<len-> ∃F,Cells w b (off+i*n) n F/\R w F (f i):=fun i N=>by obtain⟨F,⟨M,J⟩,O⟩:=hf i N;refine⟨F,⟨M,fun j hj=>?_⟩,O⟩;have:=J j hj;rw[Go.Deep.add_add,Y] at this;rw[Nat.add_assoc];exact this
     have ah:b<w.heap.size:=by
      obtain⟨F,⟨M,hc⟩,_⟩:=J 0 (by omega)
      have h1:=hc 0 U;have h2:F[0]? =some (F[0]'(by omega)):=ae9 (by omega)
      rw[h2] at h1;exact alY h1
     refine⟨(List.range len).map f,rfl,.inr ⟨b,off,cap,by simp,by simp;omega,hm,ah,fun i an=>?_⟩⟩
     have N:i<len:=by simpa using an
     obtain⟨F,hc,hr⟩:=J i N;exact⟨F,hc,by simpa using hr⟩
end
end Go.Proofs.YtejhifnjgoclpaaGreatDoor
