/- The program's order of literals, at whatever two numbers. -/
import Derived.Test.YteimfcokobdldaaCnF
namespace Go.Proofs.Yteimfcokobdldaa
open Go.RowKit
set_option linter.unusedVariables false
theorem isNaN_any (x : Int) (w : World) : Calls Try.prog 75 #[.int .i64 x] w fun e w' => e = .returned (.bool false) ∧ w = w' := by
  have hxx : (x != x) = false := by simp
  go_enter Try.func75, Try.ntmps75
  go_wp2_with fail
  go_ret
  exact ⟨rfl, rfl⟩
def cmpI (a b : Int) : Int := if a < b then -1 else if b < a then 1 else 0
theorem compare_any (a b : Int) (w : World) (v : Int) (hv : Hid (cmpI a b = v)) : Calls Try.prog 58 #[.int .i64 a, .int .i64 b] w fun e w' => e = .returned (.int .i64 v) ∧ w = w' := by
  by_cases h1 : a < b
  · have d1 : decide (a < b) = true := decide_eq_true h1
    obtain rfl : -1 = v := by rw [← hv.out]; unfold cmpI; rw [if_pos h1]
    go_enter Try.func58, Try.ntmps58
    go_wp2_with fail
    refine (isNaN_any a _).mono ?_
    rintro e w1 ⟨rfl, rfl⟩
    go_wp2_with fail
    refine (isNaN_any b _).mono ?_
    rintro e w1 ⟨rfl, rfl⟩
    go_wp2_with fail
    go_ret
    exact ⟨rfl, rfl⟩
  · have d1 : decide (a < b) = false := decide_eq_false h1
    by_cases h2 : b < a
    · have d2 : decide (b < a) = true := decide_eq_true h2
      obtain rfl : 1 = v := by rw [← hv.out]; unfold cmpI; rw [if_neg h1, if_pos h2]
      go_enter Try.func58, Try.ntmps58
      go_wp2_with fail
      refine (isNaN_any a _).mono ?_
      rintro e w1 ⟨rfl, rfl⟩
      go_wp2_with fail
      refine (isNaN_any b _).mono ?_
      rintro e w1 ⟨rfl, rfl⟩
      go_wp2_with fail
      go_ret
      exact ⟨rfl, rfl⟩
    · have d2 : decide (b < a) = false := decide_eq_false h2
      obtain rfl : 0 = v := by rw [← hv.out]; unfold cmpI; rw [if_neg h1, if_neg h2]
      go_enter Try.func58, Try.ntmps58
      go_wp2_with fail
      refine (isNaN_any a _).mono ?_
      rintro e w1 ⟨rfl, rfl⟩
      go_wp2_with fail
      refine (isNaN_any b _).mono ?_
      rintro e w1 ⟨rfl, rfl⟩
      go_wp2_with fail
      go_ret
      exact ⟨rfl, rfl⟩
/-- Var, whatever the number -/
def varW (x : Int) : Int := if x < IntKind.i64.wrap (-x) then IntKind.i64.wrap (-x) else x
theorem varW_any (x : Int) (w : World) : Calls Try.prog 21 #[.int .i64 x] w fun e w' => e = .returned (.int .i64 (varW x)) ∧ w = w' := by
  obtain ⟨y, hy⟩ : ∃ y, IntKind.i64.wrap (-x) = y := ⟨_, rfl⟩
  by_cases h0 : x < y
  · have hd : decide (x < y) = true := decide_eq_true h0
    have hv : Hid (y = varW x) := Lib.hid (by unfold varW; rw [hy, if_pos h0])
    go_enter Try.func21, Try.ntmps21
    go_wp2_with fail
    go_ret
    exact ⟨ret_int hv.out, rfl⟩
  · have hd : decide (x < y) = false := decide_eq_false h0
    have hv : Hid (x = varW x) := Lib.hid (by unfold varW; rw [hy, if_neg h0])
    go_enter Try.func21, Try.ntmps21
    go_wp2_with fail
    go_ret
    exact ⟨ret_int hv.out, rfl⟩
/-- the order as a number, whatever the two -/
def cfW (a b : Int) : Int := if cmpI (varW a) (varW b) = 0 then cmpI a b else cmpI (varW a) (varW b)
theorem order_any (a b : Int) (w : World) : Calls Try.prog 39 #[.int .i64 a, .int .i64 b] w fun e w' => e = .returned (.int .i64 (cfW a b)) ∧ w = w' := by
  obtain ⟨va, hva⟩ : ∃ y, varW a = y := ⟨_, rfl⟩
  obtain ⟨vb, hvb⟩ : ∃ y, varW b = y := ⟨_, rfl⟩
  have HA := Lib.hid hva
  have HB := Lib.hid hvb
  obtain ⟨c, hc⟩ : ∃ y, cmpI va vb = y := ⟨_, rfl⟩
  obtain ⟨d, hd⟩ : ∃ y, cmpI a b = y := ⟨_, rfl⟩
  have HC := Lib.hid hc
  have HD := Lib.hid hd
  by_cases h0 : c = 0
  · have hv : Hid (d = cfW a b) := Lib.hid (by unfold cfW; rw [hva, hvb, hc, if_pos h0, hd])
    subst h0
    clear hva hvb hc hd
    go_enter Try.func39, Try.ntmps39
    go_wp2_with fail
    refine (varW_any a _).mono ?_
    rintro e w1 ⟨rfl, rfl⟩
    rw [HA.out]
    go_wp2_with fail
    refine (varW_any b _).mono ?_
    rintro e w1 ⟨rfl, rfl⟩
    rw [HB.out]
    go_wp2_with fail
    refine (compare_any va vb _ 0 HC).mono ?_
    rintro e w1 ⟨rfl, rfl⟩
    go_wp2_with fail
    refine (compare_any a b _ d HD).mono ?_
    rintro e w1 ⟨rfl, rfl⟩
    go_wp2_with fail
    go_ret
    exact ⟨ret_int hv.out, rfl⟩
  · have hv : Hid (c = cfW a b) := Lib.hid (by unfold cfW; rw [hva, hvb, hc, if_neg h0])
    have hne : (c != 0) = true := by simp [h0]
    clear hva hvb hc hd
    go_enter Try.func39, Try.ntmps39
    go_wp2_with fail
    refine (varW_any a _).mono ?_
    rintro e w1 ⟨rfl, rfl⟩
    rw [HA.out]
    go_wp2_with fail
    refine (varW_any b _).mono ?_
    rintro e w1 ⟨rfl, rfl⟩
    rw [HB.out]
    go_wp2_with fail
    refine (compare_any va vb _ c HC).mono ?_
    rintro e w1 ⟨rfl, rfl⟩
    go_wp2_with fail
    go_ret
    exact ⟨ret_int hv.out, rfl⟩
theorem varW_small {x : Int} (h : -1000000 ≤ x ∧ x ≤ 1000000) : varW x = varI x := by
  unfold varW varI
  rw [IntWalk.i64_in _ (by omega)]
  split <;> omega
end Go.Proofs.Yteimfcokobdldaa
