/- Contracts of the walks of the heap's reading methods: each returns what its plain Lean function says. -/
import Derived.Test.YtfhbndfdlnbfpaaRows
import Derived.Test.YtfhbndfdlnbfpaaVRow
import Derived.WalkKit
import Derived.ProofKit
import Derived.Outline
import Derived.Below
import Derived.Handy
import Derived.PlainAid
import Derived.Lib.Hide
import Derived.WalkLawsBesides
import Derived.WalkSpells
import Derived.WalkSmall
import Derived.Deep.QuietTactic
import Derived.BigQuiet
namespace Go.Proofs.Ytfhbndfdlnbfpaa
open Go.RowKit
set_option linter.unusedVariables false
theorem ret_int {k : IntKind} {a b : Int} (h : a = b) : Ending.returned (.int k a) = .returned (.int k b) := by rw [h]
theorem ret_bool {a b : Bool} (h : a = b) : Ending.returned (.bool a) = .returned (.bool b) := by rw [h]
def Drawn (w w' : World) : Prop := ∃ m, w' = w.drewN m
theorem Drawn.refl (w : World) : Drawn w w := ⟨0, rfl⟩
/-- does a variable of score x go out ahead of one of score y? -/
def aheadB (x y : Int) (a b : Nat) : Bool := if x = y then decide (a < b) else decide (y < x)
set_option maxHeartbeats 800000 in
theorem ahead_any (H S n c : Nat) (x y : Int) (a b : Nat) (w : World) (h0 : w.cell? ⟨H, 0, none⟩ = some (.slice (some ⟨S, 0, none⟩) n c)) (hn : n ≤ 1000)
    (ha : a < n) (hb : b < n) (hx : w.cell? ⟨S, a, none⟩ = some (.int .i64 x)) (hy : w.cell? ⟨S, b, none⟩ = some (.int .i64 y)) :
    Calls Try.prog 29 #[.pointer (some ⟨H, 0, none⟩), .int .i64 a, .int .i64 b] w fun e w' => e = .returned (.bool (aheadB x y a b)) ∧ Drawn w w' := by
  have a0 : (0 : Int) ≤ (a : Int) := by omega
  have a1 : (a : Int) < (n : Int) := by omega
  have b0 : (0 : Int) ≤ (b : Int) := by omega
  have b1 : (b : Int) < (n : Int) := by omega
  have hx' : w.cell? ⟨S, 0 + a, none⟩ = some (.int .i64 x) := by rw [Nat.zero_add]; exact hx
  have hy' : w.cell? ⟨S, 0 + b, none⟩ = some (.int .i64 y) := by rw [Nat.zero_add]; exact hy
  by_cases hxy : x = y
  · have HA : Hid (aheadB x y a b = decide (a < b)) := by unfold aheadB; rw [if_pos hxy]; rfl
    have hq : (x != y) = false := by simp [hxy]
    clear hxy
    go_enter Try.func29, Try.ntmps29
    go_wp2_with fail
    go_quiet (fail)
    go_wp2_with fail
    go_ret
    refine ⟨ret_bool ?_, ⟨_, rfl⟩⟩
    rw [HA.out]
  · have HA : Hid (aheadB x y a b = decide (y < x)) := by unfold aheadB; rw [if_neg hxy]; rfl
    have hq : (x != y) = true := by simp [hxy]
    clear hxy
    go_enter Try.func29, Try.ntmps29
    go_wp2_with fail
    go_quiet (fail)
    go_wp2_with fail
    go_quiet (fail)
    go_wp2_with fail
    go_ret
    exact ⟨ret_bool (by rw [HA.out]), ⟨_, World.drewN_drewN _ _ _⟩⟩
end Go.Proofs.Ytfhbndfdlnbfpaa
