/- The contracts of the walks of the heap's small methods. -/
import Derived.Test.YtfhbndfdlnbfpaaOrdE
namespace Go.Proofs.Ytfhbndfdlnbfpaa
open Go.RowKit
set_option linter.unusedVariables false
theorem gv_shape {w : World} {H S P : Nat} {gv : Value} {sc : List Int} {hp : List Nat} {pl : List Int} (h : HeapAt w H S P gv sc hp pl) : ∃ a c, gv = .slice a hp.length c := by
  rcases h.rG.2 with ⟨h1, h2⟩ | ⟨g, cap, cur, h1, _⟩
  · exact ⟨none, 0, by rw [h2]; exact h1⟩
  · exact ⟨_, _, h1⟩
theorem len_any (w : World) (H S P : Nat) (gv : Value) (sc : List Int) (hp : List Nat) (pl : List Int) (h : HeapAt w H S P gv sc hp pl) :
    Calls Try.prog 17 #[.pointer (some ⟨H, 0, none⟩)] w fun e w' => e = .returned (.int .i64 hp.length) ∧ w' = w := by
  have c1 := h.c1
  obtain ⟨a, c, rfl⟩ := gv_shape h
  clear h
  go_enter Try.func17, Try.ntmps17
  go_wp2_with fail
  go_ret
  exact ⟨rfl, rfl⟩
theorem len_nil (w : World) : Calls Try.prog 17 #[.pointer none] w fun e w' => e = .returned (.int .i64 0) ∧ w' = w := by
  go_enter Try.func17, Try.ntmps17
  go_wp2_with fail
  go_ret
  exact ⟨rfl, rfl⟩
theorem known_nil (w : World) (v : Int) : Calls Try.prog 24 #[.pointer none, .int .i64 v] w fun e w' => e = .returned (.bool false) ∧ w' = w := by
  go_enter Try.func24, Try.ntmps24
  go_wp2_with fail
  go_ret
  exact ⟨rfl, rfl⟩
def knownB (m : Nat) (v : Int) : Bool := decide (1 ≤ v ∧ v < m)
theorem known_any (w : World) (H S P : Nat) (gv : Value) (sc : List Int) (hp : List Nat) (pl : List Int) (h : HeapAt w H S P gv sc hp pl) (v : Int) (r : Bool) (HR : Hid (knownB sc.length v = r)) :
    Calls Try.prog 24 #[.pointer (some ⟨H, 0, none⟩), .int .i64 v] w fun e w' => e = .returned (.bool r) ∧ w' = w := by
  have c0 := h.c0
  have hz := h.sz
  clear h
  generalize sc.length = m at *
  by_cases h1 : v < 1
  · obtain rfl : r = false := by rw [← HR.out]; unfold knownB; exact decide_eq_false (by omega)
    go_enter Try.func24, Try.ntmps24
    go_wp2_with fail
    go_ret
    exact ⟨rfl, rfl⟩
  · have h1' : 1 ≤ v := by omega
    have hr : r = decide (v < (m : Int)) := by rw [← HR.out]; unfold knownB; exact decide_eq_decide.2 (by omega)
    have HRR := Lib.hid hr
    clear hr HR
    go_enter Try.func24, Try.ntmps24
    go_wp2_with fail
    go_ret
    exact ⟨ret_bool HRR.out.symm, rfl⟩
theorem score_nil (w : World) (v : Int) : Calls Try.prog 14 #[.pointer none, .int .i64 v] w fun e w' => e = .returned (.int .i64 0) ∧ w' = w := by
  go_enter Try.func14, Try.ntmps14
  go_wp2_with fail
  refine (known_nil _ _).mono ?_
  rintro e w1 ⟨rfl, rfl⟩
  go_wp2_with fail
  go_ret
  exact ⟨rfl, rfl⟩
theorem score_out (w : World) (H S P : Nat) (gv : Value) (sc : List Int) (hp : List Nat) (pl : List Int) (h : HeapAt w H S P gv sc hp pl) (v : Int) (hv : knownB sc.length v = false) :
    Calls Try.prog 14 #[.pointer (some ⟨H, 0, none⟩), .int .i64 v] w fun e w' => e = .returned (.int .i64 0) ∧ w' = w := by
  have HV := Lib.hid hv
  clear hv
  go_enter Try.func14, Try.ntmps14
  go_wp2_with fail
  refine (known_any _ _ _ _ _ _ _ _ h v false HV).mono ?_
  rintro e w1 ⟨rfl, rfl⟩
  go_wp2_with fail
  go_ret
  exact ⟨rfl, rfl⟩
theorem score_in (w : World) (H S P : Nat) (gv : Value) (sc : List Int) (hp : List Nat) (pl : List Int) (h : HeapAt w H S P gv sc hp pl) (v : Nat) (h1 : 1 ≤ v) (h2 : v < sc.length) :
    Calls Try.prog 14 #[.pointer (some ⟨H, 0, none⟩), .int .i64 v] w fun e w' => e = .returned (.int .i64 (sc.getD v 0)) ∧ w' = w := by
  have HV : Hid (knownB sc.length (v : Int) = true) := by unfold knownB; exact decide_eq_true (by omega)
  have c0 := h.c0
  have cv := sc_get h.rS h2 rfl
  have hz := h.sz
  have HH := Lib.hid h
  have v0 : (0 : Int) ≤ (v : Int) := by omega
  have v1 : (v : Int) < (sc.length : Int) := by omega
  generalize sc.getD v 0 = x at *
  clear h
  go_enter Try.func14, Try.ntmps14
  go_wp2_with fail
  refine (known_any _ _ _ _ _ _ _ _ HH.out v true HV).mono ?_
  rintro e w1 ⟨rfl, rfl⟩
  go_wp2_with fail
  go_ret
  exact ⟨rfl, rfl⟩
theorem has_nil (w : World) (v : Int) : Calls Try.prog 16 #[.pointer none, .int .i64 v] w fun e w' => e = .returned (.bool false) ∧ ∃ m, w' = w.drewN m := by
  go_enter Try.func16, Try.ntmps16
  go_wp2_with fail
  refine (known_nil _ _).mono ?_
  rintro e w1 ⟨rfl, rfl⟩
  go_wp2_with fail
  go_ret
  exact ⟨rfl, 0, rfl⟩
end Go.Proofs.Ytfhbndfdlnbfpaa
