/- Literals in models; slices.Index, IndexFunc, Contains, ContainsFunc at ints and at slices of ints. -/
import Derived.Test.YteimfcokobdldaaCnB
import Derived.Conc.MuLone
namespace Go.Proofs.Yteimfcokobdldaa
open Go.RowKit
set_option linter.unusedVariables false
def varI (x : Int) : Int := (x.natAbs : Int)
theorem var_any (x : Int) (w : World) (h1 : -9223372036854775807 ≤ x) (h2 : x ≤ 9223372036854775807) :
    Calls Try.prog 21 #[.int .i64 x] w fun e w' => e = .returned (.int .i64 (varI x)) ∧ w = w' := by
  by_cases h0 : x < -x
  · have hv : Hid (-x = varI x) := Lib.hid (by unfold varI; omega)
    go_enter Try.func21, Try.ntmps21
    go_wp2_with fail
    go_ret
    exact ⟨ret_int hv.out, rfl⟩
  · have hv : Hid (x = varI x) := Lib.hid (by unfold varI; omega)
    go_enter Try.func21, Try.ntmps21
    go_wp2_with fail
    go_ret
    exact ⟨ret_int hv.out, rfl⟩
theorem rvar_any (x : Int) (w : World) (h1 : -9223372036854775807 ≤ x) (h2 : x ≤ 9223372036854775807) :
    Calls Try.prog 22 #[.int .i64 x] w fun e w' => e = .returned (.int .i64 (varI x)) ∧ w = w' := by
  by_cases h0 : x < 0
  · have hv : Hid (-x = varI x) := Lib.hid (by unfold varI; omega)
    go_enter Try.func22, Try.ntmps22
    go_wp2_with fail
    go_ret
    exact ⟨ret_int hv.out, rfl⟩
  · have hv : Hid (x = varI x) := Lib.hid (by unfold varI; omega)
    go_enter Try.func22, Try.ntmps22
    go_wp2_with fail
    go_ret
    exact ⟨ret_int hv.out, rfl⟩
/-- a slice of bools -/
def boolVals (l : List Bool) : List Value := l.map Value.bool
theorem boolVals_length (l : List Bool) : (boolVals l).length = l.length := by simp [boolVals]
theorem boolVals_get (l : List Bool) (k : Nat) (h : k < l.length) : (boolVals l)[k]? = some (.bool (l.getD k false)) := by simp [boolVals, h]
theorem bool_at {w : World} {a : Option Addr} {cap : Nat} {l : List Bool} (h : ValRow w (.slice a l.length cap) (boolVals l)) (k : Nat) (hk : k < l.length) :
    ∃ b off, a = some ⟨b, off, none⟩ ∧ b < w.heap.size ∧ w.cell? ⟨b, off + k, none⟩ = some (.bool (l.getD k false)) := by
  rcases h with ⟨a', cap', h1, h2⟩ | ⟨b, off, cap', h1, h2, h3, h4, h5⟩
  · have := congrArg List.length h2
    rw [boolVals_length] at this
    simp at this
    rw [this] at hk; simp at hk
  · simp only [Value.slice.injEq] at h1
    exact ⟨b, off, h1.1, h4, by rw [h5 k (by rw [boolVals_length]; exact hk), boolVals_get _ _ hk]⟩
/-- is a literal true in a model? -/
def trueB (M : List Bool) (x : Int) : Bool := (decide (x.natAbs ≤ M.length) && M.getD (x.natAbs - 1) false) == decide (0 < x)
theorem trueB_out {M : List Bool} {x : Int} (h : M.length < x.natAbs) : trueB M x = (false == decide (0 < x)) := by
  unfold trueB; rw [decide_eq_false (by omega)]; rfl
theorem trueB_in {M : List Bool} {x : Int} {j : Nat} (hj : x.natAbs = j + 1) (h : j < M.length) : trueB M x = (M.getD j false == decide (0 < x)) := by
  unfold trueB
  rw [decide_eq_true (by omega), hj]
  rfl
def trueGoal (F : FuncId) : Prop := ∀ (x : Int) (a : Option Addr) (cap : Nat) (M : List Bool) (w : World), ValRow w (.slice a M.length cap) (boolVals M) → x ≠ 0 → -1000000 ≤ x → x ≤ 1000000 → ∀ v : Bool, Hid (trueB M x = v) →
  Calls Try.prog F #[.int .i64 x, .slice a M.length cap] w fun e w' => e = .returned (.bool v) ∧ w = w'
set_option maxHeartbeats 1600000 in
theorem true_any : trueGoal 28 := by
  intro x a cap M w h h0 h1 h2 v hv
  have hl := h.len
  rw [boolVals_length] at hl
  unfold maxLen at hl
  obtain ⟨j, hj⟩ : ∃ j, x.natAbs = j + 1 := ⟨x.natAbs - 1, by omega⟩
  have HVI : Hid (varI x = (j : Int) + 1) := Lib.hid (by unfold varI; omega)
  have j0 : (0 : Int) ≤ (j : Int) := by omega
  have j9 : (j : Int) ≤ 1000000 := by omega
  have d0 : decide (1 ≤ (j : Int) + 1) = true := decide_eq_true (by omega)
  have hjw : IntKind.i64.wrap ((j : Int) + 1 - 1) = (j : Int) := by rw [IntWalk.i64_in _ (by omega)]; omega
  by_cases hin : j < M.length
  · obtain ⟨b, off, rfl, _, hc⟩ := bool_at h j hin
    have j1 : (j : Int) < (M.length : Int) := by omega
    have d1 : decide ((j : Int) + 1 ≤ (M.length : Int)) = true := decide_eq_true (by omega)
    have d1' : decide (j + 1 ≤ M.length) = true := decide_eq_true (by omega)
    have HV : Hid ((M.getD j false == decide (0 < x)) = v) := Lib.hid (by rw [← hv.out, trueB_in hj hin])
    obtain ⟨m, hm⟩ : ∃ m, M.getD j false = m := ⟨_, rfl⟩
    rw [hm] at hc HV
    clear hm h hv hj
    cases hp : decide (0 < x) <;> cases m
    all_goals
      have HVV := Lib.hid HV.out
      rw [hp] at HVV
      clear HV
      go_enter Try.func28, Try.ntmps28
      go_wp2_with fail
      refine (var_any x _ (by omega) (by omega)).mono ?_
      rintro e w1 ⟨rfl, rfl⟩
      rw [HVI.out]
      go_wp2_with fail
      go_ret
      exact ⟨ret_bool (by rw [← HVV.out]; rfl), rfl⟩
  · have d1 : decide ((j : Int) + 1 ≤ (M.length : Int)) = false := decide_eq_false (by omega)
    have d1' : decide (j + 1 ≤ M.length) = false := decide_eq_false (by omega)
    have HV : Hid ((false == decide (0 < x)) = v) := Lib.hid (by rw [← hv.out, trueB_out (by omega)])
    clear hv hj h
    cases hp : decide (0 < x)
    all_goals
      have HVV := Lib.hid HV.out
      rw [hp] at HVV
      clear HV
      go_enter Try.func28, Try.ntmps28
      go_wp2_with fail
      refine (var_any x _ (by omega) (by omega)).mono ?_
      rintro e w1 ⟨rfl, rfl⟩
      rw [HVI.out]
      go_wp2_with fail
      go_ret
      exact ⟨ret_bool (by rw [← HVV.out]; rfl), rfl⟩
end Go.Proofs.Yteimfcokobdldaa
