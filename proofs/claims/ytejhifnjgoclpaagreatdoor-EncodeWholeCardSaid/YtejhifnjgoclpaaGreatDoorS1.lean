/- Parts of the proofs, put together by a program. -/
import Derived.WalkKit
import Derived.ProofKit
import Derived.OpenShut
import Derived.Lib.Hide
import Derived.Laws.OwnMore
set_option linter.unusedVariables false
set_option linter.unusedSimpArgs false
namespace Go.Proofs.YtejhifnjgoclpaaGreatDoor
open Go.RowKit
def acp (k:IntKind) (w:World) (v:Value) (l:List Int):Prop:=
 (∃a cap,v=.slice a 0 cap/\l=[])\/
 ∃b off cap,v=.slice (some ⟨b,off,none⟩) l.length cap/\0<l.length/\l.length<=maxLen/\b<w.heap.size/\ ∀i,i<l.length->w.cell? ⟨b,off+i,none⟩=some (.int k (l.getD i 0))
theorem alY {w:World} {b o:Nat} {v:Value} (h:w.cell? ⟨b,o,none⟩=some v):b<w.heap.size:=by
 apply Classical.byContradiction;intro D;have:w.heap[b]? =none:=by simp;omega
 simp [World.cell?,this] at h
theorem acp.len {k:IntKind} {w:World} {v:Value} {l:List Int} (h:acp k w v l):l.length<=maxLen:=by
 rcases h with⟨_,_,_,rfl⟩ |⟨_,_,_,_,_,h,_⟩
 · simp
 · exact h
end Go.Proofs.YtejhifnjgoclpaaGreatDoor
namespace Go.Proofs.YtejhifnjgoclpaaGreatDoor
open Go.RowKit
def acn (w:World) (v:Value) (vs:List Value):Prop:=
 (∃a cap,v=.slice a 0 cap/\vs=[])\/
 ∃b off cap,v=.slice (some ⟨b,off,none⟩) vs.length cap/\(0<vs.length/\vs.length<=cap)/\cap<=maxLen/\b<w.heap.size/\ ∀i,i<vs.length->w.cell? ⟨b,off+i,none⟩=vs[i]?
theorem acn.len {w:World} {v:Value} {l:List Value} (h:acn w v l):l.length<=maxLen:=by
 rcases h with⟨_,_,_,rfl⟩ |⟨_,_,_,_,h1,h,_⟩
 · simp
 · exact Nat.le_trans h1.2 h
theorem ai0 {w w':World} {base:Nat} {e:TypeId} {size:Nat} {v:Value} {n:Nat} {xs:List Value} (h:w.ownsRow base e size v n xs) (J:Below w.heap.size w w'):w'.ownsRow base e size v n xs:=by
 obtain⟨M,h⟩:=h;refine⟨M,?_⟩;rcases h with h |⟨g,cap,cur,h1,h2,D,F⟩
 · exact .inl h
 · refine .inr ⟨g,cap,cur,h1,h2,?_,F⟩
   have N:g<w.heap.size:=by
    apply Classical.byContradiction;intro O;have:w.heap[g]? =none:=by simp;omega
    rw[this] at D;cases D
   rw[J.block g N];exact D
end Go.Proofs.YtejhifnjgoclpaaGreatDoor
