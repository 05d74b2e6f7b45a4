/- Contracts of the walks of math.Copysign and the score's Neg: each returns what its plain Lean function says; no condition but the arguments' own ranges. -/
import Derived.Test.YtflcbbohnkgokaaScoreOrdersW
namespace Go.Proofs.Ytflcbbohnkgokaa
open Go.RowKit
set_option linter.unusedVariables false
/-- the first with the sign of the second -/
def csN (a b : Nat) : Nat := rung a + (if 9223372036854775808 ≤ b then 9223372036854775808 else 0)
theorem bit63 (i : Nat) : (9223372036854775808 : Nat).testBit i = decide (63 = i) := by
  rw [show (9223372036854775808 : Nat) = 2 ^ 63 from rfl, Nat.testBit_two_pow]
theorem and63 (b : Nat) (hb : b < 18446744073709551616) : b &&& 9223372036854775808 = if 9223372036854775808 ≤ b then 9223372036854775808 else 0 := by
  have e : b.testBit 63 = decide (9223372036854775808 ≤ b) := by
    rw [Nat.testBit_eq_decide_div_mod_eq, show (2 : Nat) ^ 63 = 9223372036854775808 from rfl]
    by_cases h : 9223372036854775808 ≤ b
    · rw [decide_eq_true h, decide_eq_true]; omega
    · rw [decide_eq_false h, decide_eq_false]; omega
  apply Nat.eq_of_testBit_eq
  intro i
  rw [Nat.testBit_and, bit63]
  by_cases hi : 63 = i
  · subst hi
    rw [e]
    by_cases h : 9223372036854775808 ≤ b
    · simp only [h, if_true, decide_true, Bool.and_true]; rfl
    · simp only [h, if_false, decide_false, Bool.false_and]; simp
  · rw [decide_eq_false hi, Bool.and_false]
    split
    · rw [bit63, decide_eq_false hi]
    · simp
theorem andn63 (a : Nat) (ha : a < 18446744073709551616) : a &&& (18446744073709551615 - 9223372036854775808) = rung a := by
  unfold rung
  exact Nat.and_two_pow_sub_one_eq_mod a 63
theorem copysign_bits (a b : Nat) (ha : a < 18446744073709551616) (hb : b < 18446744073709551616) :
    (bits .or .u64 (bits .andNot .u64 (a : Int) 9223372036854775808) (bits .and .u64 (b : Int) 9223372036854775808)).toNat = csN a b := by
  have e1 : bits .andNot .u64 (a : Int) 9223372036854775808 = ((rung a : Nat) : Int) := by
    rw [u64_andNot _ _ (by omega) (by omega) (by omega) (by omega), Int.toNat_natCast]
    exact congrArg _ (andn63 a ha)
  have e2 : bits .and .u64 (b : Int) 9223372036854775808 = ((if 9223372036854775808 ≤ b then 9223372036854775808 else 0 : Nat) : Int) := by
    rw [u64_and _ _ (by omega) (by omega) (by omega) (by omega), Int.toNat_natCast]
    exact congrArg _ (and63 b hb)
  have hr : rung a < 9223372036854775808 := Nat.mod_lt _ (by decide)
  rw [e1, e2, u64_or_nat _ _ (by omega) (by split <;> decide), Int.toNat_natCast]
  unfold csN
  split
  · have := Nat.shiftLeft_add_eq_or_of_lt (b := rung a) (i := 63) hr 1
    rw [Nat.or_comm, show (9223372036854775808 : Nat) = 1 <<< 63 from rfl, ← this, Nat.add_comm]
  · simp
theorem copysign_any (a b : Nat) (w : World) (ha : a < 18446744073709551616) (hb : b < 18446744073709551616) :
    Calls Try.prog 35 #[.float .f64 a, .float .f64 b] w fun e w' => e = .returned (.float .f64 (csN a b)) ∧ w = w' := by
  have htb := tobits_run
  have hfb := frombits_run
  have HB := Lib.hid (copysign_bits a b ha hb)
  go_enter Try.func35, Try.ntmps35
  go_wp2
  go_ret
  exact ⟨by rw [← HB.out]; rfl, rfl⟩
def negN (a : Nat) : Nat := if nan a then a else if 9223372036854775808 ≤ a then a - 9223372036854775808 else a + 9223372036854775808
theorem copysign_is (a b c : Nat) (w : World) (ha : a < 18446744073709551616) (hb : b < 18446744073709551616) (hc : Hid (csN a b = c)) :
    Calls Try.prog 35 #[.float .f64 a, .float .f64 b] w fun e w' => e = .returned (.float .f64 c) ∧ w = w' := by
  have := copysign_any a b w ha hb
  rwa [hc.out] at this
theorem rung_one : rung 4607182418800017408 = 4607182418800017408 := by decide +kernel
theorem neg_any (a : Nat) (w : World) (ha : a < 18446744073709551616) :
    Calls Try.prog 25 #[.float .f64 a] w fun e w' => e = .returned (.float .f64 (negN a)) ∧ w = w' := by
  have HN : Hid (negN a = if nan a then a else if 9223372036854775808 ≤ a then a - 9223372036854775808 else a + 9223372036854775808) := rfl
  have n1 : Op.unary .neg (.float .f64 13830554455654793216) = pure (.float .f64 4607182418800017408) := by rfl
  have n2 : Op.unary .neg (.float .f64 4607182418800017408) = pure (.float .f64 13830554455654793216) := by rfl
  have hr := rung_lt a ha
  cases hn : nan a
  · have ho := neq_self a _ hn
    rw [hn, if_neg (by decide)] at HN
    clear hn
    by_cases hs : 9223372036854775808 ≤ a
    · rw [if_pos hs] at hr HN
      have H1 : Hid (csN 4607182418800017408 a = 13830554455654793216) := Lib.hid (by unfold csN; rw [rung_one, if_pos hs])
      have H2 : Hid (csN a 4607182418800017408 = negN a) := Lib.hid (by unfold csN; rw [hr, HN.out, if_neg (by decide)]; omega)
      clear HN hr hs n2
      go_enter Try.func25, Try.ntmps25
      go_wp2_with fail
      refine (copysign_is _ a _ _ (by decide) ha H1).mono ?_
      rintro e w' ⟨rfl, rfl⟩
      go_wp2_with fail
      refine (copysign_is a _ _ _ ha (by decide) H2).mono ?_
      rintro e w' ⟨rfl, rfl⟩
      go_wp2_with fail
      go_ret
      exact ⟨rfl, rfl⟩
    · rw [if_neg hs] at hr HN
      have H1 : Hid (csN 4607182418800017408 a = 4607182418800017408) := Lib.hid (by unfold csN; rw [rung_one, if_neg hs])
      have H2 : Hid (csN a 13830554455654793216 = negN a) := Lib.hid (by unfold csN; rw [hr, HN.out, if_pos (by decide)])
      clear HN hr hs n1
      go_enter Try.func25, Try.ntmps25
      go_wp2_with fail
      refine (copysign_is _ a _ _ (by decide) ha H1).mono ?_
      rintro e w' ⟨rfl, rfl⟩
      go_wp2_with fail
      refine (copysign_is a _ _ _ ha (by decide) H2).mono ?_
      rintro e w' ⟨rfl, rfl⟩
      go_wp2_with fail
      go_ret
      exact ⟨rfl, rfl⟩
  · have ho := neq_self a _ hn
    rw [hn] at HN
    clear hn
    go_enter Try.func25, Try.ntmps25
    go_wp2_with fail
    go_ret
    exact ⟨by rw [HN.out]; rfl, rfl⟩
/-! what the other sign does to a number -/
theorem negN_lt (a : Nat) (ha : a < 18446744073709551616) : negN a < 18446744073709551616 := by unfold negN; split <;> (try split) <;> omega
theorem nan_neg (a : Nat) (ha : a < 18446744073709551616) : nan (negN a) = nan a := by
  cases hn : nan a
  · have h1 : negN a = if 9223372036854775808 ≤ a then a - 9223372036854775808 else a + 9223372036854775808 := by unfold negN; rw [hn]; rfl
    have h2 := rung_lt a ha
    have h3 := rung_lt (negN a) (negN_lt a ha)
    have h4 := of_decide_eq_false hn
    refine decide_eq_false ?_
    rw [h3, h1]
    split at h2
    · rename_i hs; rw [if_pos hs]; rw [if_neg (by omega)]; omega
    · rename_i hs; rw [if_neg hs]; rw [if_pos (by omega)]; omega
  · have : negN a = a := by unfold negN; rw [hn]; rfl
    rw [this, hn]
theorem negN_of (a : Nat) (hn : nan a = false) : negN a = if 9223372036854775808 ≤ a then a - 9223372036854775808 else a + 9223372036854775808 := by unfold negN; rw [hn]; rfl
theorem negN_neg (a : Nat) (ha : a < 18446744073709551616) : negN (negN a) = a := by
  cases hn : nan a
  · have h1 := negN_of a hn
    have h2 := negN_of (negN a) (by rw [nan_neg a ha, hn])
    rw [h2, h1]
    by_cases hs : 9223372036854775808 ≤ a
    · rw [if_pos hs, if_neg (by omega)]; omega
    · rw [if_neg hs, if_pos (by omega)]; omega
  · have : negN a = a := by unfold negN; rw [hn]; rfl
    rw [this, this]
theorem neg_xor (a : Nat) (ha : a < 18446744073709551616) (hn : nan a = false) : bits .xor .u64 (a : Int) 9223372036854775808 = ((negN a : Nat) : Int) := by
  rw [u64_xor _ _ (by omega) (by omega) (by omega) (by omega), Int.toNat_natCast, negN_of a hn]
  have e : Int.toNat 9223372036854775808 = 2 ^ 63 := rfl
  rw [e]
  congr 1
  apply Nat.eq_of_testBit_eq
  intro i
  rw [Nat.testBit_xor, Nat.testBit_two_pow]
  by_cases hs : 9223372036854775808 ≤ a
  · rw [if_pos hs]
    have h1 : a = 2 ^ 63 + (a - 9223372036854775808) := by omega
    have h2 : a - 9223372036854775808 < 2 ^ 63 := by omega
    by_cases hi : 63 = i
    · subst hi
      conv => lhs; rw [h1]
      rw [Nat.testBit_two_pow_add_eq, Nat.testBit_lt_two_pow h2]; simp
    · rw [decide_eq_false hi, Bool.xor_false]
      by_cases hl : i < 63
      · conv => lhs; rw [h1]
        rw [Nat.testBit_two_pow_add_gt hl]
      · rw [Nat.testBit_lt_two_pow (Nat.lt_of_lt_of_le ha (show 2 ^ 64 ≤ 2 ^ i from Nat.pow_le_pow_right (by decide) (by omega))), Nat.testBit_lt_two_pow (Nat.lt_of_lt_of_le h2 (Nat.pow_le_pow_right (by decide) (by omega)))]
  · rw [if_neg hs]
    have h2 : a < 2 ^ 63 := by omega
    rw [show a + 9223372036854775808 = 2 ^ 63 + a from by omega]
    by_cases hi : 63 = i
    · subst hi
      rw [Nat.testBit_two_pow_add_eq, Nat.testBit_lt_two_pow h2]; simp
    · rw [decide_eq_false hi, Bool.xor_false]
      by_cases hl : i < 63
      · rw [Nat.testBit_two_pow_add_gt hl]
      · have h3 : 2 ^ 63 + a < 2 ^ i := Nat.lt_of_lt_of_le (show 2 ^ 63 + a < 2 ^ 64 from by omega) (Nat.pow_le_pow_right (by decide) (by omega))
        rw [Nat.testBit_lt_two_pow h3, Nat.testBit_lt_two_pow (show a < 2 ^ i from by omega)]
theorem kind_neg (a : Nat) (ha : a < 18446744073709551616) (hn : nan a = false) : kindN (negN a) + kindN a = 7 := by
  have h1 := negN_of a hn
  have hl := negN_lt a ha
  have hm : nan (negN a) = false := by rw [nan_neg a ha, hn]
  rcases kind_cases a ha with ⟨k1, n1, g1⟩ | ⟨k1, n1, g1⟩ | ⟨k1, n1, g1⟩ | ⟨k1, n1, g1⟩ | ⟨k1, n1, g1⟩ | ⟨k1, n1, g1⟩ | ⟨k1, n1, g1⟩
  · rw [hn] at n1; cases n1
  all_goals
    first
    | rw [if_pos (by omega)] at h1
    | rw [if_neg (by omega)] at h1
    rcases kind_cases (negN a) hl with ⟨k2, n2, g2⟩ | ⟨k2, n2, g2⟩ | ⟨k2, n2, g2⟩ | ⟨k2, n2, g2⟩ | ⟨k2, n2, g2⟩ | ⟨k2, n2, g2⟩ | ⟨k2, n2, g2⟩
    all_goals first | omega | (rw [hm] at n2; cases n2)
theorem row_neg (a : Nat) (ha : a < 18446744073709551616) (hn : nan a = false) : rowN (negN a) + rowN a = 18446744073709551615 := by
  have h1 := negN_of a hn
  have h2 := rowN_eq a ha
  have h3 := rowN_eq (negN a) (negN_lt a ha)
  rw [nan_neg a ha, hn, if_neg (by decide)] at h3
  rw [hn, if_neg (by decide)] at h2
  rw [h2, h3, h1]
  by_cases hs : 9223372036854775808 ≤ a
  · rw [if_pos hs, if_pos hs, if_neg (by omega)]; omega
  · rw [if_neg hs, if_neg hs, if_pos (by omega)]; omega
theorem cmp_neg (a b : Nat) (ha : a < 18446744073709551616) (hb : b < 18446744073709551616) (na : nan a = false) (nb : nan b = false) : cmpN (negN a) (negN b) = -(cmpN a b) := by
  have h1 := row_neg a ha na
  have h2 := row_neg b hb nb
  unfold cmpN
  by_cases c1 : rowN a < rowN b
  · rw [if_pos c1, if_neg (by omega), if_pos (by omega)]; rfl
  · by_cases c2 : rowN b < rowN a
    · rw [if_neg c1, if_pos c2, if_pos (by omega)]
    · rw [if_neg c1, if_neg c2, if_neg (by omega), if_neg (by omega)]; rfl
end Go.Proofs.Ytflcbbohnkgokaa
