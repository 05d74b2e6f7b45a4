/- Contracts of the walks of the score's Kind and Compare, and of the references' Kind, Row, Compare, Text: each returns what its plain Lean function says; no condition but the arguments' own ranges. -/
import Derived.Test.YtflcbbohnkgokaaScoW
namespace Go.Proofs.Ytflcbbohnkgokaa
open Go.RowKit
set_option linter.unusedVariables false
theorem cmp_lt (x y : Nat) (hx : nan x = false) (hy : nan y = false) (v : Bool) (h : decide (key x < key y) = v) : (FloatKind.f64.format.order x y == some Ordering.lt) = v := by
  show (Ieee.double.order x y == some Ordering.lt) = v
  rw [order_key x y hx hy, ← h]
  simp only [compare, compareOfLessAndEq]
  by_cases h1 : key x < key y
  · simp [h1]
  · by_cases h2 : key x = key y
    · simp [h2]
    · simp [h1, h2]
theorem cmp_gt (x y : Nat) (hx : nan x = false) (hy : nan y = false) (v : Bool) (h : decide (key y < key x) = v) : (FloatKind.f64.format.order x y == some Ordering.gt) = v := by
  show (Ieee.double.order x y == some Ordering.gt) = v
  rw [order_key x y hx hy, ← h]
  simp only [compare, compareOfLessAndEq]
  by_cases h1 : key x < key y
  · have : ¬ key y < key x := by omega
    simp [h1, this]
  · by_cases h2 : key x = key y
    · simp [h2]
    · have : key y < key x := by omega
      simp [h1, h2, this]
theorem k1 : nan 18442240474082181119 = false ∧ key 18442240474082181119 = -9218868437227405311 := by decide +kernel
theorem k2 : nan 0 = false ∧ key 0 = 0 := by decide +kernel
theorem k3 : nan 9218868437227405311 = false ∧ key 9218868437227405311 = 9218868437227405311 := by decide +kernel
theorem signbit_is (b : Nat) (v : Bool) (w : World) (h : b < 18446744073709551616) (hv : Hid (decide (9223372036854775808 ≤ b) = v)) :
    Calls Try.prog 33 #[.float .f64 b] w fun e w' => e = .returned (.bool v) ∧ w = w' := by
  have := signbit_any b w h
  rwa [hv.out] at this
set_option maxHeartbeats 800000 in
theorem kind_any (b : Nat) (w : World) (h : b < 18446744073709551616) :
    Calls Try.prog 18 #[.float .f64 b] w fun e w' => e = .returned (.int .i64 (kindN b : Nat)) ∧ w = w' := by
  have hk := key_eq b h
  rcases kind_cases b h with ⟨hkd, hn, hb⟩ | ⟨hkd, hn, hb⟩ | ⟨hkd, hn, hb⟩ | ⟨hkd, hn, hb⟩ | ⟨hkd, hn, hb⟩ | ⟨hkd, hn, hb⟩ | ⟨hkd, hn, hb⟩
  · have ho := neq_self b _ hn
    have HK := Lib.hid hkd
    clear hkd hn hb hk
    go_enter Try.func18, Try.ntmps18
    go_wp2
    go_ret
    exact ⟨ret_int (by rw [HK.out]; rfl), rfl⟩
  · have ho := neq_self b _ hn
    have HK := Lib.hid hkd
    rw [if_pos (by omega)] at hk
    have c0 := cmp_lt b _ hn k1.1 true (by rw [k1.2]; exact decide_eq_true (by rw [hk]; omega))
    clear hkd hn hb hk
    go_enter Try.func18, Try.ntmps18
    go_wp2
    go_ret
    exact ⟨ret_int (by rw [HK.out]; rfl), rfl⟩
  · have ho := neq_self b _ hn
    have HK := Lib.hid hkd
    rw [if_pos (by omega)] at hk
    have c0 := cmp_lt b _ hn k1.1 false (by rw [k1.2]; exact decide_eq_false (by rw [hk]; omega))
    have c1 := cmp_lt b _ hn k2.1 true (by rw [k2.2]; exact decide_eq_true (by rw [hk]; omega))
    clear hkd hn hb hk
    go_enter Try.func18, Try.ntmps18
    go_wp2
    go_ret
    exact ⟨ret_int (by rw [HK.out]; rfl), rfl⟩
  · have ho := neq_self b _ hn
    have HK := Lib.hid hkd
    rw [if_pos (by omega)] at hk
    have c0 := cmp_lt b _ hn k1.1 false (by rw [k1.2]; exact decide_eq_false (by rw [hk]; omega))
    have c1 := cmp_lt b _ hn k2.1 false (by rw [k2.2]; exact decide_eq_false (by rw [hk]; omega))
    have c2 := cmp_gt b _ hn k3.1 false (by rw [k3.2]; exact decide_eq_false (by rw [hk]; omega))
    have c3 := cmp_gt b _ hn k2.1 false (by rw [k2.2]; exact decide_eq_false (by rw [hk]; omega))
    have HG : Hid (decide (9223372036854775808 ≤ b) = true) := Lib.hid (decide_eq_true (by omega))
    clear hkd hn hb hk
    go_enter Try.func18, Try.ntmps18
    go_wp2_with (go_at_call 33; refine (signbit_is b _ _ h HG).mono ?_; rintro e w' ⟨rfl, rfl⟩)
    go_ret
    exact ⟨ret_int (by rw [HK.out]; rfl), rfl⟩
  · have ho := neq_self b _ hn
    have HK := Lib.hid hkd
    rw [if_neg (by omega)] at hk
    have c0 := cmp_lt b _ hn k1.1 false (by rw [k1.2]; exact decide_eq_false (by rw [hk]; omega))
    have c1 := cmp_lt b _ hn k2.1 false (by rw [k2.2]; exact decide_eq_false (by rw [hk]; omega))
    have c2 := cmp_gt b _ hn k3.1 false (by rw [k3.2]; exact decide_eq_false (by rw [hk]; omega))
    have c3 := cmp_gt b _ hn k2.1 false (by rw [k2.2]; exact decide_eq_false (by rw [hk]; omega))
    have HG : Hid (decide (9223372036854775808 ≤ b) = false) := Lib.hid (decide_eq_false (by omega))
    clear hkd hn hb hk
    go_enter Try.func18, Try.ntmps18
    go_wp2_with (go_at_call 33; refine (signbit_is b _ _ h HG).mono ?_; rintro e w' ⟨rfl, rfl⟩)
    go_ret
    exact ⟨ret_int (by rw [HK.out]; rfl), rfl⟩
  · have ho := neq_self b _ hn
    have HK := Lib.hid hkd
    rw [if_neg (by omega)] at hk
    have c0 := cmp_lt b _ hn k1.1 false (by rw [k1.2]; exact decide_eq_false (by rw [hk]; omega))
    have c1 := cmp_lt b _ hn k2.1 false (by rw [k2.2]; exact decide_eq_false (by rw [hk]; omega))
    have c2 := cmp_gt b _ hn k3.1 false (by rw [k3.2]; exact decide_eq_false (by rw [hk]; omega))
    have c3 := cmp_gt b _ hn k2.1 true (by rw [k2.2]; exact decide_eq_true (by rw [hk]; omega))
    clear hkd hn hb hk
    go_enter Try.func18, Try.ntmps18
    go_wp2
    go_ret
    exact ⟨ret_int (by rw [HK.out]; rfl), rfl⟩
  · have ho := neq_self b _ hn
    have HK := Lib.hid hkd
    rw [if_neg (by omega)] at hk
    have c0 := cmp_lt b _ hn k1.1 false (by rw [k1.2]; exact decide_eq_false (by rw [hk]; omega))
    have c1 := cmp_lt b _ hn k2.1 false (by rw [k2.2]; exact decide_eq_false (by rw [hk]; omega))
    have c2 := cmp_gt b _ hn k3.1 true (by rw [k3.2]; exact decide_eq_true (by rw [hk]; omega))
    clear hkd hn hb hk
    go_enter Try.func18, Try.ntmps18
    go_wp2
    go_ret
    exact ⟨ret_int (by rw [HK.out]; rfl), rfl⟩
theorem pow_rest (b : Nat) (h : b < 18446744073709551616) : ∃ p r : Nat, bits .and .u64 ((b : Int) / 4503599627370496) 2047 = p ∧ bits .and .u64 (b : Int) 4503599627370495 = r ∧ p = b / 4503599627370496 % 2048 ∧ r = b % 4503599627370496 := by
  refine ⟨b / 4503599627370496 % 2048, b % 4503599627370496, ?_, ?_, rfl, rfl⟩
  · have e : (b : Int) / 4503599627370496 = ((b / 4503599627370496 : Nat) : Int) := by omega
    rw [e, u64_and _ _ (by omega) (by omega) (by omega) (by omega), Int.toNat_natCast]
    exact congrArg _ (Nat.and_two_pow_sub_one_eq_mod _ 11)
  · rw [u64_and _ _ (by omega) (by omega) (by omega) (by omega), Int.toNat_natCast]
    exact congrArg _ (Nat.and_two_pow_sub_one_eq_mod _ 52)
set_option maxHeartbeats 800000 in
theorem rkind_any (b : Nat) (w : World) (h : b < 18446744073709551616) :
    Calls Try.prog 20 #[.int .u64 b] w fun e w' => e = .returned (.int .i64 (kindN b : Nat)) ∧ w = w' := by
  obtain ⟨p, r, hp, hr, hp2, hr2⟩ := pow_rest b h
  rcases kind_cases b h with ⟨hkd, hn, hb⟩ | ⟨hkd, hn, hb⟩ | ⟨hkd, hn, hb⟩ | ⟨hkd, hn, hb⟩ | ⟨hkd, hn, hb⟩ | ⟨hkd, hn, hb⟩ | ⟨hkd, hn, hb⟩
  · have q0 : ((p : Int) == 2047) = true := by simp; omega
    have q1 : ((r : Int) != 0) = true := by simp; omega
    have HK := Lib.hid hkd
    clear hkd hn hb hp2 hr2
    go_enter Try.func20, Try.ntmps20
    go_wp2
    go_ret
    exact ⟨ret_int (by rw [HK.out]; rfl), rfl⟩
  · have q0 : ((p : Int) == 2047) = true := by simp; omega
    have q1 : ((r : Int) != 0) = false := by simp; omega
    have q2 : ((b : Int) / 9223372036854775808 == 1) = true := by simp; omega
    have HK := Lib.hid hkd
    clear hkd hn hb hp2 hr2
    go_enter Try.func20, Try.ntmps20
    go_wp2
    go_ret
    exact ⟨ret_int (by rw [HK.out]; rfl), rfl⟩
  · by_cases hz : p = 0
    · have q0 : ((p : Int) == 2047) = false := by simp; omega
      have q1 : ((p : Int) == 0) = true := by simp; omega
      have q2 : ((r : Int) == 0) = false := by simp; omega
      have q3 : ((b : Int) / 9223372036854775808 == 1) = true := by simp; omega
      have HK := Lib.hid hkd
      clear hkd hn hb hp2 hr2 hz
      go_enter Try.func20, Try.ntmps20
      go_wp2
      go_ret
      exact ⟨ret_int (by rw [HK.out]; rfl), rfl⟩
    · have q0 : ((p : Int) == 2047) = false := by simp; omega
      have q1 : ((p : Int) == 0) = false := by simp; omega
      have q2 : ((b : Int) / 9223372036854775808 == 1) = true := by simp; omega
      have HK := Lib.hid hkd
      clear hkd hn hb hp2 hr2 hz
      go_enter Try.func20, Try.ntmps20
      go_wp2
      go_ret
      exact ⟨ret_int (by rw [HK.out]; rfl), rfl⟩
  · have q0 : ((p : Int) == 2047) = false := by simp; omega
    have q1 : ((p : Int) == 0) = true := by simp; omega
    have q2 : ((r : Int) == 0) = true := by simp; omega
    have q3 : ((b : Int) / 9223372036854775808 == 1) = true := by simp; omega
    have HK := Lib.hid hkd
    clear hkd hn hb hp2 hr2
    go_enter Try.func20, Try.ntmps20
    go_wp2
    go_ret
    exact ⟨ret_int (by rw [HK.out]; rfl), rfl⟩
  · have q0 : ((p : Int) == 2047) = false := by simp; omega
    have q1 : ((p : Int) == 0) = true := by simp; omega
    have q2 : ((r : Int) == 0) = true := by simp; omega
    have q3 : ((b : Int) / 9223372036854775808 == 1) = false := by simp; omega
    have HK := Lib.hid hkd
    clear hkd hn hb hp2 hr2
    go_enter Try.func20, Try.ntmps20
    go_wp2
    go_ret
    exact ⟨ret_int (by rw [HK.out]; rfl), rfl⟩
  · by_cases hz : p = 0
    · have q0 : ((p : Int) == 2047) = false := by simp; omega
      have q1 : ((p : Int) == 0) = true := by simp; omega
      have q2 : ((r : Int) == 0) = false := by simp; omega
      have q3 : ((b : Int) / 9223372036854775808 == 1) = false := by simp; omega
      have HK := Lib.hid hkd
      clear hkd hn hb hp2 hr2 hz
      go_enter Try.func20, Try.ntmps20
      go_wp2
      go_ret
      exact ⟨ret_int (by rw [HK.out]; rfl), rfl⟩
    · have q0 : ((p : Int) == 2047) = false := by simp; omega
      have q1 : ((p : Int) == 0) = false := by simp; omega
      have q2 : ((b : Int) / 9223372036854775808 == 1) = false := by simp; omega
      have HK := Lib.hid hkd
      clear hkd hn hb hp2 hr2 hz
      go_enter Try.func20, Try.ntmps20
      go_wp2
      go_ret
      exact ⟨ret_int (by rw [HK.out]; rfl), rfl⟩
  · have q0 : ((p : Int) == 2047) = true := by simp; omega
    have q1 : ((r : Int) != 0) = false := by simp; omega
    have q2 : ((b : Int) / 9223372036854775808 == 1) = false := by simp; omega
    have HK := Lib.hid hkd
    clear hkd hn hb hp2 hr2
    go_enter Try.func20, Try.ntmps20
    go_wp2
    go_ret
    exact ⟨ret_int (by rw [HK.out]; rfl), rfl⟩
end Go.Proofs.Ytflcbbohnkgokaa
