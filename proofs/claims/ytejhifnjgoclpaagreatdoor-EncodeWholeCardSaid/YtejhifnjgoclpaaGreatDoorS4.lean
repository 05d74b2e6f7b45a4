/- Parts of the proofs, put together by a program. -/
import Derived.Test.YtejhifnjgoclpaaGreatDoorS3
import Derived.WalkSmall
set_option linter.unusedVariables false
set_option linter.unusedSimpArgs false
namespace Go.Proofs.YtejhifnjgoclpaaGreatDoor
open Go.RowKit
theorem apX {b c o p:Nat} (h:o≠p):(⟨b,o,none⟩:Addr)≠⟨c,p,none⟩:=by intro e;injection e with _ D;exact h D
theorem aq2 {w:World} {a b:Addr} {v:Value} (h:a≠b):(w.setCell a v).cell? b=w.cell? b:=World.cell?_setCell_other _ _ _ _ h
theorem aq3 {w:World} {a:Addr} {v u:Value} (h:w.cell? a=some u):(w.setCell a v).cell? a=some v:=World.cell?_setCell_same _ _ _ h
structure kx (w:World) (b:Nat) (vs:List Value):Prop where
 lt:b<w.heap.size
 cell: ∀i,i<vs.length->w.cell? ⟨b,i,none⟩=vs[i]?
 free: ∀i,w.frozen? ⟨b,i,none⟩=false
theorem kx.get {w:World} {b:Nat} {vs:List Value} (h:kx w b vs) (i:Nat) {u:Value} (hu:vs[i]? =some u):w.cell? ⟨b,i,none⟩=some u:=by rw[h.cell i (by rcases Nat.lt_or_ge i vs.length with D |D;exact D;rw[List.getElem?_eq_none D] at hu;cases hu),hu]
theorem kx.below {w w':World} {b:Nat} {vs:List Value} {B:Nat} (h:kx w b vs) (D:Below B w w') (J:b<B):kx w' b vs:=by have F:=D.block b J;exact⟨Nat.lt_of_lt_of_le h.lt D.size,fun i M=>by rw[World.cell?_of_block (w:=w) (a:=⟨b,i,none⟩) F];exact h.cell i M,fun i=>by rw[World.frozen?_of_block (w:=w) (a:=⟨b,i,none⟩) F];exact h.free i⟩
theorem kx.after {w w':World} {b:Nat} {vs:List Value} (h:kx w b vs) (D:Below w.heap.size w w'):kx w' b vs:=h.below D h.lt
theorem ahC (w:World) (a:Addr) (u:Value):(w.setCell a u).heap.size=w.heap.size:=by simp [World.setCell]
theorem kx.set {w:World} {b:Nat} {vs:List Value} (h:kx w b vs) (i:Nat) (D:i<vs.length) (u:Value):kx (w.setCell ⟨b,i,none⟩ u) b (vs.set i u):=by
 refine⟨by rw[ahC];exact h.lt,fun j F=>?_,fun j=>by rw[World.frozen?_setCell];exact h.free j⟩
 rw[List.length_set] at F;by_cases e:i=j
 · subst e;rw[aq3 (u:=vs[i]) (by rw[h.cell i D];simp),List.getElem?_set_self D]
 · rw[aq2 (apX e),List.getElem?_set_ne e];exact h.cell j F
theorem kx.alloc {w:World} {b:Nat} {vs:List Value} (h:kx w b vs) (o:Obj):kx (w.alloc o) b vs:=h.after ((Below.refl _ _).alloc (Nat.le_refl _) o)
end Go.Proofs.YtejhifnjgoclpaaGreatDoor
