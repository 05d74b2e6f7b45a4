/- Parts of the proofs, put together: PgA. -/
import Derived.Test.YtiimkhnngpfnbaaR22
import Derived.Laws.IdiomArrays
/- ProofShort, of arguments that came in. -/
namespace Go.Proofs.Ytiimkhnngpfnbaa
open Go.RowKit Go.ChangeShapes Go.WideShapes Go.Deep
set_option linter.unusedVariables false
set_option linter.unusedSimpArgs false
set_option maxRecDepth 100000
def PickC (_ : World) (cs : List Value) (x : Int × Int × Int) : Prop := cs = [.int .i64 x.1, .int .i64 x.2.1, .int .i64 x.2.2]
theorem pickC_open {H : Type} {enc : TypeId × Value → H} {w : World} {base : Nat} {spare : Nat → Bool} {held : Bool} (m : Nat) (cs : List Value) (y : DataW H × List MemPlace)
    (h : DataW.trod enc Try.prog w base spare held m 57 cs = some y) : ∃ x : Int × Int × Int, PickC w cs x := by
  have hl : cs.length = Try.prog.cellsOf 57 := by obtain ⟨_, _, _, _, h1, _⟩ := DataW.trod_array Try.underlying57 h; exact h1
  have hc : Try.prog.cellsOf 57 = 3 := by kernel_rfl
  rw [hc] at hl
  match cs, hl with
  | [c0, c1, c2], hl =>
    obtain ⟨y0, y1, y2, n, _, h0, h1, h2⟩ := trod_array3 Try.underlying57 (by kernel_rfl) h
    obtain ⟨a, e0, _, _⟩ := DataW.trod_int Try.underlying3 h0
    obtain ⟨b, e1, _, _⟩ := DataW.trod_int Try.underlying3 h1
    obtain ⟨c, e2, _, _⟩ := DataW.trod_int Try.underlying3 h2
    simp at e0 e1 e2
    exact ⟨(a, b, c), by unfold PickC; rw [e0, e1, e2]⟩
open Fx in
theorem ints_vrep {w : World} {v : Value} {L : List (List Int)} (h : RowOf 1 IntsC w v L) : VRep ⟨fun _ => undef, All w⟩ [] w v (.c (.t (.s (L.map intsR)))) :=
  .c (.t (rowOf_trep h (fun b i v hc => World.block_lt_of_cell? w _ hc) (fun _ => rfl) (fun cs x _ hr j hj => by
    obtain ⟨v, rfl, h1, _⟩ := hr
    obtain rfl : j = 0 := by omega
    exact ints_trep h1 (fun b i v hc => World.block_lt_of_cell? w _ hc))))
open Fx in
theorem picks_vrep {w : World} {v : Value} {L : List (Int × Int × Int)} (h : RowOf 3 PickC w v L) : VRep ⟨fun _ => undef, All w⟩ [] w v (.c (.t (.s (L.map pickR)))) :=
  .c (.t (rowOf_trep h (fun b i v hc => World.block_lt_of_cell? w _ hc) (fun _ => rfl) (fun cs x _ hr j hj => by
    unfold PickC at hr
    subst hr
    have : j = 0 ∨ j = 1 ∨ j = 2 := by omega
    rcases this with rfl | rfl | rfl <;> exact .v _ rfl)))
open Fx in
theorem proofShort_walk (a0 : Option Addr) (len0 cap0 : Nat) (z0 : List (List Int)) (a1 : Option Addr) (len1 cap1 : Nat) (z1 : List (Int × Int × Int)) (w : World) (w0 : RowOf 1 IntsC w (.slice a0 len0 cap0) z0) (w1 : RowOf 3 PickC w (.slice a1 len1 cap1) z1) :
    Calls Try.prog 4 #[.slice a0 len0 cap0, .slice a1 len1 cap1] w fun e w' => e = .returned (.bool true) ∧ Below w.heap.size w w' := by
  refine (fx_to (short_fx z0 z1) w [.slice a0 len0 cap0, .slice a1 len1 cap1] rfl (fun i hi => ?_)).mono ?_
  · have : i = 0 ∨ i = 1 := by simp at hi; omega
    rcases this with rfl | rfl
    · exact ints_vrep w0
    · exact picks_vrep w1
  · rintro e w' ⟨v, A', rfl, hb, _, hv⟩
    rw [arg_known hv]
    exact ⟨rfl, hb⟩
end Go.Proofs.Ytiimkhnngpfnbaa
