/- Parts of the proofs, put together: CnP. -/
import Derived.Test.YtiimkhnngpfnbaaR8
import Derived.Deep.LoopGhost
/- The reference's order, and its Norm. -/
namespace Go.Proofs.Ytiimkhnngpfnbaa
open Go.RowKit
set_option linter.unusedVariables false
theorem rbefore_any (a b : Int) (w : World) (ha : -1000000 ≤ a ∧ a ≤ 1000000) (hb : -1000000 ≤ b ∧ b ≤ 1000000) (v : Bool) (hv : Hid (decide (befI a b) = v)) :
    Calls Try.prog 38 #[.int .i64 a, .int .i64 b] w fun e w' => e = .returned (.bool v) ∧ w' = w := by
  obtain ⟨va, hva⟩ : ∃ y, varI a = y := ⟨_, rfl⟩
  obtain ⟨vb, hvb⟩ : ∃ y, varI b = y := ⟨_, rfl⟩
  have HA := Lib.hid hva
  have HB := Lib.hid hvb
  by_cases h1 : va < vb
  · have d1 : decide (va < vb) = true := decide_eq_true h1
    obtain rfl : true = v := by rw [← hv.out]; exact (decide_eq_true (by unfold befI; omega)).symm
    clear hva hvb hv
    go_enter Try.func38, Try.ntmps38
    go_wp2_with fail
    refine (rvar_any a _ (by omega) (by omega)).mono ?_
    rintro e w1 ⟨rfl, rfl⟩
    rw [HA.out]
    go_wp2_with fail
    refine (rvar_any b _ (by omega) (by omega)).mono ?_
    rintro e w1 ⟨rfl, rfl⟩
    rw [HB.out]
    go_wp2_with fail
    go_ret
    exact ⟨rfl, rfl⟩
  · have d1 : decide (va < vb) = false := decide_eq_false h1
    by_cases h2 : va = vb
    · have d2 : (va == vb) = true := by simp [h2]
      obtain ⟨u, hu⟩ : ∃ u, decide (a < b) = u := ⟨_, rfl⟩
      obtain rfl : u = v := by
        rw [← hv.out, ← hu]
        apply Bool.eq_iff_iff.2
        simp only [decide_eq_true_eq]
        unfold befI; omega
      clear hva hvb hv
      go_enter Try.func38, Try.ntmps38
      go_wp2_with fail
      refine (rvar_any a _ (by omega) (by omega)).mono ?_
      rintro e w1 ⟨rfl, rfl⟩
      rw [HA.out]
      go_wp2_with fail
      refine (rvar_any b _ (by omega) (by omega)).mono ?_
      rintro e w1 ⟨rfl, rfl⟩
      rw [HB.out]
      go_wp2_with fail
      refine (rvar_any a _ (by omega) (by omega)).mono ?_
      rintro e w1 ⟨rfl, rfl⟩
      rw [HA.out]
      go_wp2_with fail
      refine (rvar_any b _ (by omega) (by omega)).mono ?_
      rintro e w1 ⟨rfl, rfl⟩
      rw [HB.out]
      go_wp2_with fail
      go_ret
      exact ⟨rfl, rfl⟩
    · have d2 : (va == vb) = false := by simp [h2]
      obtain rfl : false = v := by rw [← hv.out]; exact (decide_eq_false (by unfold befI; omega)).symm
      clear hva hvb hv
      go_enter Try.func38, Try.ntmps38
      go_wp2_with fail
      refine (rvar_any a _ (by omega) (by omega)).mono ?_
      rintro e w1 ⟨rfl, rfl⟩
      rw [HA.out]
      go_wp2_with fail
      refine (rvar_any b _ (by omega) (by omega)).mono ?_
      rintro e w1 ⟨rfl, rfl⟩
      rw [HB.out]
      go_wp2_with fail
      refine (rvar_any a _ (by omega) (by omega)).mono ?_
      rintro e w1 ⟨rfl, rfl⟩
      rw [HA.out]
      go_wp2_with fail
      refine (rvar_any b _ (by omega) (by omega)).mono ?_
      rintro e w1 ⟨rfl, rfl⟩
      rw [HB.out]
      go_wp2_with fail
      go_ret
      exact ⟨rfl, rfl⟩
/-- a literal's row owns its cells -/
theorem own_lit (w : World) (A : Array Value) (T : TypeId) (base n : Nat) (hn : A.size = n) (hb : base ≤ w.heap.size) (hm : n ≤ maxLen) : (w.alloc (.cells A T)).ownsRow base T 1 (.slice (some ⟨w.heap.size, 0, none⟩) n n) n A.toList := by
  subst hn
  exact ⟨by simp, .inr ⟨w.heap.size, A.size, A, rfl, hb, by show (w.heap.push _)[w.heap.size]? = _; simp, Nat.le_refl _, hm, by simp, by rw [Nat.mul_one]; exact List.take_of_length_le (by simp)⟩⟩
/-- a part of a row, as the model cuts it -/
theorem valRow_sliced {w : World} {a : Option Addr} {cap n : Nat} {vs : List Value} (h : ValRow w (.slice a n cap) vs) (l k : Nat) (hlk : l ≤ k) (hk : k ≤ vs.length) :
    ValRow w (sliced a l k cap 1) ((vs.take k).drop l) := by
  have hl : ((vs.take k).drop l).length = k - l := by simp; omega
  unfold sliced
  by_cases h0 : k - l = 0
  · rw [h0] at hl ⊢
    exact .inl ⟨_, _, rfl, List.length_eq_zero_iff.1 hl⟩
  · rcases h with ⟨a', cap', h1, rfl⟩ | ⟨b, off, c2, h1, h2, h3, h4, h5⟩
    · simp at hk; omega
    · simp only [Value.slice.injEq] at h1
      obtain ⟨rfl, _, rfl⟩ := h1
      rw [if_neg (by omega)]
      refine .inr ⟨b, off + l, cap - l, ?_, by rw [hl]; omega, by omega, h4, fun i hi => ?_⟩
      · rw [hl, Option.map_some, Nat.mul_one, add_lit]
      · rw [hl] at hi
        rw [List.getElem?_drop, List.getElem?_take, if_pos (by omega), Nat.add_assoc]
        exact h5 (l + i) (by omega)
theorem cap_of_row {w : World} {a : Option Addr} {cap n : Nat} {vs : List Value} (h : ValRow w (.slice a n cap) vs) : vs.length ≤ cap := by
  rcases h with ⟨a', cap', h1, rfl⟩ | ⟨b, off, c2, h1, h2, h3, h4, h5⟩
  · exact Nat.zero_le _
  · simp only [Value.slice.injEq] at h1
    obtain ⟨_, _, rfl⟩ := h1
    exact h2.2
theorem under_ints : Try.prog.underlying 27 = some (.slice (Try.prog.elem 27)) := by kernel_rfl
theorem elem_ints : Try.prog.elem 27 = 3 := by kernel_rfl
theorem run_cut_h (a : Option Addr) (len cap p : Nat) (hp : p ≤ cap) (w : World) : (Instr.slice 27 (.slice a len cap) none (some (.int .i64 (p : Int))) none).run Try.prog w = .ok (sliced a 0 p cap 1) w := by
  rw [run_slice_h w _ a len cap under_ints .i64 (p : Int) (by omega) (by omega), elem_ints, Try.sizeOf3]
  rfl
theorem run_cut_l (a : Option Addr) (len cap p : Nat) (hp : p ≤ len) (w : World) : (Instr.slice 27 (.slice a len cap) (some (.int .i64 (p : Int))) none none).run Try.prog w = .ok (sliced a p len cap 1) w := by
  rw [run_slice_l w _ a len cap under_ints .i64 (p : Int) (by omega) (by omega), elem_ints, Try.sizeOf3]
  rfl
/-- a slice of the call's own, as it grows -/
structure OwnV (B : Nat) (T : TypeId) (w0 w : World) (v : Value) (vs : List Value) : Prop where
  bsz : B ≤ w.heap.size
  be : Below B w0 w
  own : w.ownsRow B T 1 v vs.length vs
theorem OwnV.none (B : Nat) (T : TypeId) (w : World) (hB : B ≤ w.heap.size) : OwnV B T w w (.slice none 0 0) [] := ⟨hB, Below.refl _ _, rfl, .inl ⟨rfl, rfl⟩⟩
theorem OwnV.after {B : Nat} {T : TypeId} {w0 w w' : World} {v : Value} {vs : List Value} (h : OwnV B T w0 w v vs) (hb : Below w.heap.size w w') : OwnV B T w0 w' v vs :=
  ⟨Nat.le_trans h.bsz hb.size, h.be.trans (hb.mono h.bsz), ownsRow_below h.own hb⟩
theorem OwnV.app {B : Nat} {T : TypeId} {w0 w wa w' : World} {v v' : Value} {vs l : List Value} (h : OwnV B T w0 w v vs) (hb : Below w.heap.size w wa) (ha : Appd wa w' B T v v' vs.length vs l) : OwnV B T w0 w' v' (vs ++ l) := by
  have h1 := h.after hb
  refine ⟨Nat.le_trans h1.bsz ha.grow.size, h1.be.trans (below_of_grown ha.grow h1.bsz (fun g e => (row_block h1.own e).1)), ?_⟩
  rw [List.length_append]
  exact ha.own
theorem OwnV.row {B : Nat} {T : TypeId} {w0 w : World} {v : Value} {vs : List Value} (h : OwnV B T w0 w v vs) : ValRow w v vs := valRow_own h.own
theorem OwnV.lower {B B' : Nat} {T : TypeId} {w0 w w1 : World} {v : Value} {vs : List Value} (h : OwnV B T w0 w v vs) (hB : B' ≤ B) (h1 : Below B' w1 w0) : OwnV B' T w1 w v vs := by
  refine ⟨Nat.le_trans hB h.bsz, h1.trans (h.be.mono hB), h.own.1, ?_⟩
  rcases h.own.2 with h2 | ⟨g, cap, cur, e1, e2, e3⟩
  · exact .inl h2
  · exact .inr ⟨g, cap, cur, e1, Nat.le_trans hB e2, e3⟩
theorem OwnV.lit (w : World) (A : Array Value) (T : TypeId) (n : Nat) (hn : A.size = n) (hm : n ≤ maxLen) : OwnV w.heap.size T w (w.alloc (.cells A T)) (.slice (some ⟨w.heap.size, 0, Option.none⟩) n n) A.toList :=
  ⟨by simp, (Below.refl _ _).alloc (Nat.le_refl _) _, by
    have := own_lit w A T w.heap.size n hn (Nat.le_refl _) hm
    rwa [show A.toList.length = n from by simpa using hn]⟩
end Go.Proofs.Ytiimkhnngpfnbaa
