/- The contracts of the walks of Has and Push. -/
import Derived.Test.YtfhbndfdlnbfpaaOrdF
namespace Go.Proofs.Ytfhbndfdlnbfpaa
open Go.RowKit
set_option linter.unusedVariables false
theorem mem_getD {l : List Nat} {v : Nat} (h : v ∈ l) : ∃ i, i < l.length ∧ l.getD i 0 = v := by
  obtain ⟨i, hi, e⟩ := List.mem_iff_getElem.1 h
  exact ⟨i, hi, by rw [getD_lt _ _ hi]; exact e⟩
theorem Placed.inn {m : Nat} {hp : List Nat} {pl : List Int} (h : Placed m hp pl) {v : Nat} (hv : v ∈ hp) : ∃ i : Nat, i < hp.length ∧ hp.getD i 0 = v ∧ pl.getD v 0 = (i : Int) := by
  obtain ⟨i, hi, e⟩ := mem_getD hv
  refine ⟨i, hi, e, ?_⟩
  have := h.at_ i hi
  rw [e] at this
  simp [this]
theorem Placed.outt {m : Nat} {hp : List Nat} {pl : List Int} (h : Placed m hp pl) {v : Nat} (hm : v < m) (hv : v ∉ hp) : pl.getD v 0 = -1 := by
  have := h.out v hm hv
  simp [this]
theorem pl_get {w : World} {H S P : Nat} {gv : Value} {sc : List Int} {hp : List Nat} {pl : List Int} (h : HeapAt w H S P gv sc hp pl) {v : Nat} (hv : v < sc.length) : w.cell? ⟨P, v, none⟩ = some (.int .i64 (pl.getD v 0)) := by
  rw [h.rP.cellAt v (by omega), ints_get _ _ (by rw [h.pl.len]; exact hv)]
theorem has_out (w : World) (H S P : Nat) (gv : Value) (sc : List Int) (hp : List Nat) (pl : List Int) (h : HeapAt w H S P gv sc hp pl) (v : Int) (hv : knownB sc.length v = false) :
    Calls Try.prog 16 #[.pointer (some ⟨H, 0, none⟩), .int .i64 v] w fun e w' => e = .returned (.bool false) ∧ ∃ m, w' = w.drewN m := by
  have HV := Lib.hid hv
  clear hv
  go_enter Try.func16, Try.ntmps16
  go_wp2_with fail
  refine (known_any _ _ _ _ _ _ _ _ h v false HV).mono ?_
  rintro e w1 ⟨rfl, rfl⟩
  go_wp2_with fail
  go_ret
  exact ⟨rfl, 0, rfl⟩
theorem has_in (w : World) (H S P : Nat) (gv : Value) (sc : List Int) (hp : List Nat) (pl : List Int) (h : HeapAt w H S P gv sc hp pl) (v : Nat) (h1 : 1 ≤ v) (h2 : v < sc.length) (r : Bool) (hr : r = decide (v ∈ hp)) :
    Calls Try.prog 16 #[.pointer (some ⟨H, 0, none⟩), .int .i64 v] w fun e w' => e = .returned (.bool r) ∧ ∃ m, w' = w.drewN m := by
  have HV : Hid (knownB sc.length (v : Int) = true) := by unfold knownB; exact decide_eq_true (by omega)
  have c2 := h.c2
  have cv := pl_get h h2
  have hz := h.sz
  have HH := Lib.hid h
  have v0 : (0 : Int) ≤ (v : Int) := by omega
  have v1 : (v : Int) < (sc.length : Int) := by omega
  obtain ⟨x, hx⟩ : ∃ x, pl.getD v 0 = x := ⟨_, rfl⟩
  have HX : Hid (r = decide (0 ≤ x)) := by
    refine Lib.hid ?_
    rw [hr, ← hx]
    by_cases hm : v ∈ hp
    · obtain ⟨i, _, _, e⟩ := h.pl.inn hm
      rw [e]; simp [hm]
    · rw [h.pl.outt h2 hm]; simp [hm]
  rw [hx] at cv
  clear h hx hr
  go_enter Try.func16, Try.ntmps16
  go_wp2_with fail
  refine (known_any _ _ _ _ _ _ _ _ HH.out v true HV).mono ?_
  rintro e w1 ⟨rfl, rfl⟩
  go_wp2_with fail
  go_ret
  exact ⟨ret_bool HX.out.symm, 0, rfl⟩
end Go.Proofs.Ytfhbndfdlnbfpaa
