/- Parts of the proofs, put together by a program. -/
import Derived.Test.YtejhifnjgoclpaaGreatDoorS2
import Derived.Deep.AppendLies
set_option linter.unusedVariables false
set_option linter.unusedSimpArgs false
namespace Go.Proofs.YtejhifnjgoclpaaGreatDoor
open Go.RowKit
structure rz (F:Nat->Prop) (w w':World):Prop where
 os:w'.os=w.os
 tape:w'.tape=w.tape
 output:w'.output=w.output
 size:w.heap.size<=w'.heap.size
 block: ∀b,b<w.heap.size-> ¬F b->w'.heap[b]? =w.heap[b]?
theorem rz.refl (F:Nat->Prop) (w:World):rz F w w:=⟨rfl,rfl,rfl,Nat.le_refl _,fun _ _ _=>rfl⟩
theorem rz.trans {F:Nat->Prop} {a b c:World} (h:rz F a b) (k:rz F b c):rz F a c:=
 ⟨k.os.trans h.os,k.tape.trans h.tape,k.output.trans h.output,Nat.le_trans h.size k.size,fun x J D=>(k.block x (Nat.lt_of_lt_of_le J h.size) D).trans (h.block x J D)⟩
def TV {α:Type} (R:World->List Value->α->Prop) (w:World) (F:Nat->Prop) (cs:List Value) (x:α):Prop:= ∀w',rz F w w'->R w' cs x
theorem TV.here {α:Type} {R:World->List Value->α->Prop} {w:World} {F:Nat->Prop} {cs:List Value} {x:α} (h:TV R w F cs x):R w cs x:=h w (rz.refl F w)
def acP {α:Type} (n:Nat) (R:World->List Value->α->Prop) (F:Nat->Prop) (w:World) (base:Nat) (E:TypeId) (v:Value) (l:List α):Prop:=
 ∃D:List (List Value),D.length=l.length/\(∀cs∈D,cs.length=n)/\w.ownsRow base E n v l.length D.flatten/\ ∀(i:Nat) (h:i<D.length) (h':i<l.length),TV R w (fun b=>F b\/v.ownBlock=some b) D[i] l[i]
theorem al8 (n:Nat): ∀(D:List (List Value)),(∀c∈D,c.length=n)-> ∀(i:Nat) (h:i<D.length) (j:Nat),j<n->D.flatten[i*n+j]? =(D[i])[j]? :=by
 intro D
 induction D with
 |nil=>intro _ i h;simp at h
 |cons c t N=>
  intro hc i h j M;have F:c.length=n:=hc c (by simp)
  cases i with
  |zero=>
   rw[List.flatten_cons,List.getElem?_append_left (by omega)]
   simp
  |succ i=>
   rw[List.flatten_cons,List.getElem?_append_right (by rw[F,Nat.succ_mul];omega)]
   have e:(i+1)*n+j - c.length=i*n+j:=by rw[F,Nat.succ_mul];omega
   rw[e,N (fun c J=>hc c (by simp [J])) i (by simpa using h) j M]
   simp
theorem aiZ {w:World} {base:Nat} {E:TypeId} {n g cap m:Nat} {xs:List Value} (h:w.ownsRow base E n (.slice (some ⟨g,0,none⟩) m cap) m xs) {j:Nat} (J:j<m*n):w.cell? ⟨g,j,none⟩=xs[j]? :=by
 obtain⟨U,h⟩:=h;rcases h with⟨h,_⟩ |⟨N,M,cur,h1,_,D,_,_,_,F⟩
 · cases h
 · injection h1 with h1 h2 O;injection h1 with h1;injection h1 with h1;subst h1;rw[cell_of_row w g j cur E (0,0) D,<-F,List.getElem?_take_of_lt J,Array.getElem?_toList]
theorem acP.row {α:Type} {n:Nat} {R:World->List Value->α->Prop} {F:Nat->Prop} {w:World} {base:Nat} {E:TypeId} {v:Value} {l:List α} (h:acP n R F w base E v l) (hn:0<n):RowOf n R w v l:=by
 obtain⟨D,h1,h2,J,h4⟩:=h;by_cases Y:l.length=0
 · have av:=List.length_eq_zero_iff.1 Y;subst av;rcases J.2 with⟨rfl,_⟩ |⟨g,cap,cur,rfl,_,_,_,hc,_⟩
   · exact .inl ⟨_,_,rfl,rfl,by omega⟩
   · exact .inl ⟨_,_,rfl,rfl,hc⟩
 · have Z:=J;rcases J.2 with⟨_,h0⟩ |⟨g,cap,cur,rfl,_,N,ah,an,_⟩
   · exact absurd h0 Y
   · refine .inr ⟨g,0,cap,rfl,ah,an,?_,fun i O=>?_⟩
     · rcases Nat.lt_or_ge g w.heap.size with M |ar
       · exact M
       · rw[Array.getElem?_eq_none ar] at N;cases N
     · have U:i<D.length:=by omega
       refine⟨D[i],⟨h2 _ (List.getElem_mem _),fun j hj=>?_⟩,(h4 i U O).here⟩;have M:i*n+j<l.length*n:=by have:(i+1)*n<=l.length*n:=Nat.mul_le_mul_right n O;rw[Nat.succ_mul] at this;omega
       rw[Nat.zero_add,aiZ Z M];exact al8 n D h2 i U j hj
def acQ {α:Type} (n:Nat) (R:World->List Value->α->Prop) (F:Nat->Prop) (w:World) (v:Value) (l:List α):Prop:=
 (∃a cap,v=.slice a 0 cap/\l=[]/\cap<=maxLen)\/
 ∃(b off cap:Nat) (D:List (List Value)),v=.slice (some ⟨b,off,none⟩) l.length cap/\l.length<=cap/\cap<=maxLen/\b<w.heap.size/\D.length=l.length/\
  ∀(i:Nat) (h:i<D.length) (h':i<l.length) (w':World),rz F w w'->Cells w' b (off+i*n) n D[i]/\R w' D[i] l[i]
theorem acQ.row {α:Type} {n:Nat} {R:World->List Value->α->Prop} {F:Nat->Prop} {w:World} {v:Value} {l:List α} (h:acQ n R F w v l):RowOf n R w v l:=by
 rcases h with h |⟨b,off,cap,D,h1,h2,J,M,U,N⟩
 · exact .inl h
 · exact .inr ⟨b,off,cap,h1,h2,J,M,fun i O=>⟨D[i]'(by omega),N i (by omega) O w (rz.refl _ _)⟩⟩
end Go.Proofs.YtejhifnjgoclpaaGreatDoor
