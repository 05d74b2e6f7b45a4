/- What may be done to a heap, as it came in. -/
import Derived.Test.YtfhbndfdlnbfpaaOrdBC
import Derived.Test.YtfhbndfdlnbfpaaOpen
namespace Go.Proofs.Ytfhbndfdlnbfpaa
open Go.RowKit Go.ChangeShapes Go.WideShapes Go.Deep
def OpC (_ : World) (cs : List Value) (x : Int × Int × Int) : Prop := cs = [.int .i64 x.1, .int .i64 x.2.1, .int .i64 x.2.2]
theorem opC_open {H : Type} {enc : TypeId × Value → H} {w : World} {base : Nat} {spare : Nat → Bool} {held : Bool} (m : Nat) (cs : List Value) (y : DataW H × List MemPlace)
    (h : DataW.trod enc Try.prog w base spare held m 41 cs = some y) : ∃ x, OpC w cs x := by
  obtain ⟨xs, n, _, _, hl, hxl, hf⟩ := DataW.trod_struct Try.underlying41 h
  have hc : Try.prog.cellsOf 41 = 3 := by kernel_rfl
  rw [hc] at hl
  match cs, hl with
  | [c0, c1, c2], hl =>
    obtain ⟨y0, h0⟩ := field_one (by kernel_rfl) rfl (by simp) hxl (hf 0 _ rfl)
    obtain ⟨y1, h1⟩ := field_one (by kernel_rfl) rfl (by simp) hxl (hf 1 _ rfl)
    obtain ⟨y2, h2⟩ := field_one (by kernel_rfl) rfl (by simp) hxl (hf 2 _ rfl)
    obtain ⟨a, e0, _, _⟩ := DataW.trod_int Try.underlying3 h0
    obtain ⟨b, e1, _, _⟩ := DataW.trod_int Try.underlying3 h1
    obtain ⟨c, e2, _, _⟩ := DataW.trod_int Try.underlying3 h2
    simp at e0 e1 e2
    exact ⟨(a, b, c), by unfold OpC; rw [e0, e1, e2]⟩
theorem opsAt_of {w : World} {a : Option Addr} {len cap : Nat} {l : List (Int × Int × Int)} (h : RowOf 3 OpC w (.slice a len cap) l) : OpsAt w a len := by
  obtain ⟨a', cap', he⟩ := h.shape
  simp only [Value.slice.injEq] at he
  obtain ⟨_, hl, _⟩ := he
  refine ⟨by rw [hl]; exact h.len, fun i hi => ?_⟩
  obtain ⟨b, off, ha, hb, cs, ⟨_, hc⟩, hr⟩ := h.at_ i (by omega)
  unfold OpC at hr
  subst hr
  exact ⟨b, off, _, _, _, ha, hb, hc 0 (by omega), hc 1 (by omega), hc 2 (by omega)⟩
theorem orderPlays_walk2 (a0 : Int) (w0 : (Lit.int .i64 a0).wf = true) (a1 : Option Addr) (len1 cap1 : Nat) (z1 : List (Int × Int × Int)) (w : World) (w1 : RowOf 3 OpC w (.slice a1 len1 cap1) z1) :
    Calls Try.prog 6 #[.int .i64 a0, .slice a1 len1 cap1] w fun e w' => e = .returned (.bool true) ∧ Below w.heap.size w w' :=
  orderPlays_walk a0 w0 a1 len1 cap1 w (opsAt_of w1)
end Go.Proofs.Ytfhbndfdlnbfpaa
