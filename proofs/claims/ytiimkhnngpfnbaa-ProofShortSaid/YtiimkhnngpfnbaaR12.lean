/- Parts of the proofs, put together: CnI, CnJ. -/
import Derived.Test.YtiimkhnngpfnbaaR11
import Derived.Laws.MakeOwn
/- Spread: plain, and its walk. -/
namespace Go.Proofs.Ytiimkhnngpfnbaa
open Go.RowKit
set_option linter.unusedVariables false
def outTo (V : List Int) : Nat → List Int
  | 0 => []
  | k + 1 => outTo V k ++ if V.getD (k + 1) 0 = 0 then [] else [((k + 1 : Nat) : Int) * V.getD (k + 1) 0]
theorem setV_length (V : List Int) (x : Int) : (setV V x).length = V.length := by simp [setV]
end Go.Proofs.Ytiimkhnngpfnbaa
/- The walk of Spread. -/
namespace Go.Proofs.Ytiimkhnngpfnbaa
open Go.RowKit
set_option linter.unusedVariables false
structure SpAt (w : World) (b n : Nat) (va : Option Addr) (vc : Nat) (LL : List (List Int)) (V : List Int) (wr : World) : Prop where
  be : Below w.heap.size w wr
  vals : ValsAt wr b V
  len : V.length = n + 1
  hb : w.heap.size < b
  f : VarAt wr w.heap.size [.int .i64 n, .slice va LL.length vc]
theorem VarAt.nearF {w w' : World} {b : Nat} {vs : List Value} {F : Nat → Prop} (h : VarAt w b vs) (hN : Near F w w') (hb : ¬ F b) : VarAt w' b vs := by
  have e := hN.block b h.lt hb
  exact ⟨Nat.lt_of_lt_of_le h.lt hN.size, fun i hi => by rw [World.cell?_of_block (w := w) (a := ⟨b, i, none⟩) e]; exact h.cell i hi, fun i => by rw [World.frozen?_of_block (w := w) (a := ⟨b, i, none⟩) e]; exact h.free i⟩
theorem SpAt.set {w : World} {b n : Nat} {va : Option Addr} {vc : Nat} {LL : List (List Int)} {V : List Int} {wr w' : World} (h : SpAt w b n va vc LL V wr) (x : Int) (hv : ValsAt w' b (setV V x)) (hN : Near (fun k => k = b) wr w') : SpAt w b n va vc LL (setV V x) w' :=
  ⟨h.be.trans (hN.below h.be.size (fun k e => by have := h.hb; omega)), hv, by rw [setV_length]; exact h.len, h.hb, h.f.nearF hN (by have := h.hb; omega)⟩
theorem fresh_row (w : World) (u : Value) (T : TypeId) (g : Nat) (hg : g = w.heap.size) : ValRow (w.alloc (.cells #[u] T)) (.slice (some ⟨g, 0, none⟩) 1 1) [u] := by
  subst hg
  refine .inr ⟨w.heap.size, 0, 1, rfl, by simp, by unfold maxLen; decide, by simp, fun i hi => ?_⟩
  have : i = 0 := by simpa using hi
  subst this
  exact (varAt_new w #[u] T _ rfl).cell 0 (by simp)
theorem infoI : (Try.prog.info? 3).map (fun i => (i.zero, i.size, i.bytes)) = some (some (.int .i64 0), 1, 8) := by kernel_rfl
/-- the last loop: what is told so far -/
structure SpOut (w : World) (b n : Nat) (va : Option Addr) (vc : Nat) (LL : List (List Int)) (V : List Int) (m : Nat) (v : Value) (wr : World) : Prop where
  sp : SpAt w b n va vc LL V wr
  own : wr.ownsRow (b + 1) 3 1 v (outTo V m).length (intVals (outTo V m))
end Go.Proofs.Ytiimkhnngpfnbaa
