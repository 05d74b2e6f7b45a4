/- The contract of the walk of Push. -/
import Derived.Test.YtfhbndfdlnbfpaaOrdH
import Derived.OwnWalk
namespace Go.Proofs.Ytfhbndfdlnbfpaa
open Go.RowKit
set_option linter.unusedVariables false
theorem info_int : (Try.prog.info? 3).map (fun i => (i.zero, i.size, i.bytes)) = some (some (.int .i64 0), 1, 8) := by kernel_rfl
theorem push_nil (w : World) (v : Int) : Calls Try.prog 19 #[.pointer none, .int .i64 v] w fun e w' => e = .returned (.tuple #[]) ∧ ∃ m, w' = w.drewN m := by
  go_enter Try.func19, Try.ntmps19
  go_wp2_with fail
  refine (known_nil _ _).mono ?_
  rintro e w1 ⟨rfl, rfl⟩
  go_wp2_with fail
  refine bodyPost_ret (results_none rfl _ _ _) rfl ?_
  exact ⟨rfl, 0, rfl⟩
theorem push_out (w : World) (H S P : Nat) (gv : Value) (sc : List Int) (hp : List Nat) (pl : List Int) (h : HeapAt w H S P gv sc hp pl) (v : Int) (hv : knownB sc.length v = false) :
    Calls Try.prog 19 #[.pointer (some ⟨H, 0, none⟩), .int .i64 v] w fun e w' => e = .returned (.tuple #[]) ∧ ∃ m, w' = w.drewN m := by
  have HV := Lib.hid hv
  clear hv
  go_enter Try.func19, Try.ntmps19
  go_wp2_with fail
  refine (known_any _ _ _ _ _ _ _ _ h v false HV).mono ?_
  rintro e w1 ⟨rfl, rfl⟩
  go_wp2_with fail
  refine bodyPost_ret (results_none rfl _ _ _) rfl ?_
  exact ⟨rfl, 0, rfl⟩
theorem push_has (w : World) (H S P : Nat) (gv : Value) (sc : List Int) (hp : List Nat) (pl : List Int) (h : HeapAt w H S P gv sc hp pl) (v : Nat) (hv : v ∈ hp) :
    Calls Try.prog 19 #[.pointer (some ⟨H, 0, none⟩), .int .i64 v] w fun e w' => e = .returned (.tuple #[]) ∧ ∃ m, w' = w.drewN m := by
  have h1 := (h.rg v hv).1
  have h2 := (h.rg v hv).2
  have HV : Hid (knownB sc.length (v : Int) = true) := by unfold knownB; exact decide_eq_true (by omega)
  have c2 := h.c2
  have cv := pl_get h h2
  have hz := h.sz
  have HH := Lib.hid h
  have v0 : (0 : Int) ≤ (v : Int) := by omega
  have v1 : (v : Int) < (sc.length : Int) := by omega
  obtain ⟨i, _, _, e⟩ := h.pl.inn hv
  rw [e] at cv
  clear h e
  have i0 : (0 : Int) ≤ (i : Int) := by omega
  go_enter Try.func19, Try.ntmps19
  go_wp2_with fail
  refine (known_any _ _ _ _ _ _ _ _ HH.out v true HV).mono ?_
  rintro e w1 ⟨rfl, rfl⟩
  go_wp2_with fail
  refine bodyPost_ret (results_none rfl _ _ _) rfl ?_
  exact ⟨rfl, 0, rfl⟩
end Go.Proofs.Ytfhbndfdlnbfpaa
