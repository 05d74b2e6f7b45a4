/- Contracts of the walks of the score's Compare, of the law's of, and of the references' Row, Compare, Text: each returns what its plain Lean function says; no condition but the arguments' own ranges. -/
import Derived.Test.YtflcbbohnkgokaaScoK
namespace Go.Proofs.Ytflcbbohnkgokaa
open Go.RowKit
set_option linter.unusedVariables false
theorem rkind_is (b k : Nat) (w : World) (h : b < 18446744073709551616) (hk : Hid (kindN b = k)) :
    Calls Try.prog 20 #[.int .u64 b] w fun e w' => e = .returned (.int .i64 k) ∧ w = w' := by
  have := rkind_any b w h
  rwa [hk.out] at this
theorem kind_is (b k : Nat) (w : World) (h : b < 18446744073709551616) (hk : Hid (kindN b = k)) :
    Calls Try.prog 18 #[.float .f64 b] w fun e w' => e = .returned (.int .i64 k) ∧ w = w' := by
  have := kind_any b w h
  rwa [hk.out] at this
theorem kind_nan (b : Nat) (h : b < 18446744073709551616) : kindN b = 0 ↔ nan b = true := by
  rcases kind_cases b h with ⟨hkd, hn, hb⟩ | ⟨hkd, hn, hb⟩ | ⟨hkd, hn, hb⟩ | ⟨hkd, hn, hb⟩ | ⟨hkd, hn, hb⟩ | ⟨hkd, hn, hb⟩ | ⟨hkd, hn, hb⟩ <;> simp [hkd, hn]
theorem kind_le (b : Nat) (h : b < 18446744073709551616) : kindN b ≤ 6 := by
  rcases kind_cases b h with ⟨hkd, hn, hb⟩ | ⟨hkd, hn, hb⟩ | ⟨hkd, hn, hb⟩ | ⟨hkd, hn, hb⟩ | ⟨hkd, hn, hb⟩ | ⟨hkd, hn, hb⟩ | ⟨hkd, hn, hb⟩ <;> omega
theorem not_u64 (b : Nat) (h : b < 18446744073709551616) : bits .xor .u64 IntKind.u64.max (b : Int) = ((18446744073709551615 - b : Nat) : Int) := by
  have e0 : IntKind.u64.max = ((18446744073709551615 : Nat) : Int) := by decide
  rw [e0, u64_xor_nat _ _ (by decide) h]
  congr 1
  apply Nat.eq_of_testBit_eq
  intro i
  have e1 : (18446744073709551615 : Nat) = 2 ^ 64 - 1 := by decide
  rw [Nat.testBit_xor, e1, Nat.testBit_two_pow_sub_one, show 2 ^ 64 - 1 - b = 2 ^ 64 - (b + 1) from by omega, Nat.testBit_two_pow_sub_succ (by omega)]
  by_cases hi : i < 64
  · simp [hi]
  · have : b.testBit i = false := Nat.testBit_lt_two_pow (Nat.lt_of_lt_of_le h (show 2 ^ 64 ≤ 2 ^ i from Nat.pow_le_pow_right (by decide) (by omega)))
    simp [hi, this]
theorem rrow_any (b : Nat) (w : World) (h : b < 18446744073709551616) :
    Calls Try.prog 34 #[.int .u64 b] w fun e w' => e = .returned (.int .u64 (rowN b : Nat)) ∧ w = w' := by
  have hr := rowN_eq b h
  have hk6 := kind_le b h
  by_cases hn : nan b = true
  · have HK := Lib.hid ((kind_nan b h).2 hn)
    rw [hn] at hr
    have HR := Lib.hid hr
    clear hr hn hk6
    go_enter Try.func34, Try.ntmps34
    go_wp2_with (go_at_call 20; refine (rkind_is b 0 _ h HK).mono ?_; rintro e w' ⟨rfl, rfl⟩)
    go_ret
    exact ⟨ret_int (by rw [HR.out]; rfl), rfl⟩
  · have hk0 : ¬ kindN b = 0 := fun e => hn ((kind_nan b h).1 e)
    rw [Bool.not_eq_true] at hn
    rw [hn, if_neg (by decide)] at hr
    generalize hk : kindN b = k at *
    have HK := Lib.hid hk
    have hke : ((k : Int) == 0) = false := by simp; omega
    clear hn hk hk0
    by_cases hs : 9223372036854775808 ≤ b
    · rw [if_pos hs] at hr
      have HR := Lib.hid hr
      have hd : ((b : Int) / 9223372036854775808 == 1) = true := by simp; omega
      clear hr
      go_enter Try.func34, Try.ntmps34
      go_wp2_with (go_at_call 20; refine (rkind_is b k _ h HK).mono ?_; rintro e w' ⟨rfl, rfl⟩)
      go_ret
      exact ⟨ret_int (by rw [HR.out, not_u64 b (by assumption)]), rfl⟩
    · rw [if_neg hs] at hr
      have HR := Lib.hid hr
      have hd : ((b : Int) / 9223372036854775808 == 1) = false := by simp; omega
      have ho : bits .or .u64 (b : Int) 9223372036854775808 = ((b + 9223372036854775808 : Nat) : Int) := by
        rw [u64_or _ _ (by omega) (by omega) (by omega) (by omega), Int.toNat_natCast]
        have e1 : b ||| 1 <<< 63 = 1 <<< 63 + b := by rw [Nat.or_comm, Nat.shiftLeft_add_eq_or_of_lt (by omega)]
        have e2 : (1 : Nat) <<< 63 = 9223372036854775808 := by decide
        rw [e2] at e1
        have e3 : Int.toNat 9223372036854775808 = 9223372036854775808 := rfl
        rw [e3, e1]; omega
      have HO := Lib.hid ho
      clear hr ho
      go_enter Try.func34, Try.ntmps34
      go_wp2_with (go_at_call 20; refine (rkind_is b k _ h HK).mono ?_; rintro e w' ⟨rfl, rfl⟩)
      go_ret
      exact ⟨ret_int (by rw [HO.out, HR.out]), rfl⟩
theorem rowN_lt (b : Nat) (h : b < 18446744073709551616) : rowN b < 18446744073709551616 := by
  rw [rowN_eq b h]
  split
  · decide
  · split <;> omega
theorem rcompare_any (a b : Nat) (w : World) (ha : a < 18446744073709551616) (hb : b < 18446744073709551616) :
    Calls Try.prog 22 #[.int .u64 a, .int .u64 b] w fun e w' => e = .returned (.int .i64 (cmpN a b)) ∧ w = w' := by
  have hx := rowN_lt a ha
  have hy := rowN_lt b hb
  have HC : Hid (cmpN a b = if rowN a < rowN b then -1 else if rowN b < rowN a then 1 else 0) := rfl
  go_enter Try.func22, Try.ntmps22
  go_wp2_with fail
  refine (rrow_any a _ ha).mono ?_
  rintro e w' ⟨rfl, rfl⟩
  go_wp2_with fail
  refine (rrow_any b _ hb).mono ?_
  rintro e w' ⟨rfl, rfl⟩
  generalize rowN a = x at *
  generalize rowN b = y at *
  go_wp2_with fail
  all_goals go_ret
  · exact ⟨ret_int (by rw [HC.out, if_pos (by omega)]), rfl⟩
  · exact ⟨ret_int (by rw [HC.out, if_neg (by omega), if_pos (by omega)]), rfl⟩
  · exact ⟨ret_int (by rw [HC.out, if_neg (by omega), if_neg (by omega)]), rfl⟩
theorem kind_rows (b : Nat) (h : b < 18446744073709551616) :
    (kindN b = 0 ∧ nan b = true ∧ rowN b = 0) ∨
    (nan b = false ∧ 0 < kindN b ∧
     ((kindN b = 1 ∧ rowN b = 4503599627370495 ∧ key b = -9218868437227405312) ∨
      (kindN b = 2 ∧ rowN b + b = 18446744073709551615 ∧ key b = 9223372036854775808 - b ∧ 9223372036854775808 < b ∧ b < 18442240474082181120) ∨
      (kindN b = 3 ∧ rowN b = 9223372036854775807 ∧ key b = 0) ∨
      (kindN b = 4 ∧ rowN b = 9223372036854775808 ∧ key b = 0) ∨
      (kindN b = 5 ∧ rowN b = b + 9223372036854775808 ∧ key b = b ∧ 0 < b ∧ b < 9218868437227405312) ∨
      (kindN b = 6 ∧ rowN b = 18442240474082181120 ∧ key b = 9218868437227405312))) := by
  have r := rowN_eq b h
  have k := key_eq b h
  rcases kind_cases b h with ⟨h1, n1, g1⟩ | ⟨h1, n1, g1⟩ | ⟨h1, n1, g1⟩ | ⟨h1, n1, g1⟩ | ⟨h1, n1, g1⟩ | ⟨h1, n1, g1⟩ | ⟨h1, n1, g1⟩
  · left; rw [n1] at r; exact ⟨h1, n1, r⟩
  · rw [n1, if_neg (by decide), if_pos (by omega)] at r
    rw [if_pos (by omega)] at k
    exact .inr ⟨n1, by omega, .inl ⟨h1, by omega, by omega⟩⟩
  · rw [n1, if_neg (by decide), if_pos (by omega)] at r
    rw [if_pos (by omega)] at k
    exact .inr ⟨n1, by omega, .inr (.inl ⟨h1, by omega, by omega, g1.1, g1.2⟩)⟩
  · rw [n1, if_neg (by decide), if_pos (by omega)] at r
    rw [if_pos (by omega)] at k
    exact .inr ⟨n1, by omega, .inr (.inr (.inl ⟨h1, by omega, by omega⟩))⟩
  · rw [n1, if_neg (by decide), if_neg (by omega)] at r
    rw [if_neg (by omega)] at k
    exact .inr ⟨n1, by omega, .inr (.inr (.inr (.inl ⟨h1, by omega, by omega⟩)))⟩
  · rw [n1, if_neg (by decide), if_neg (by omega)] at r
    rw [if_neg (by omega)] at k
    exact .inr ⟨n1, by omega, .inr (.inr (.inr (.inr (.inl ⟨h1, by omega, by omega, g1.1, g1.2⟩))))⟩
  · rw [n1, if_neg (by decide), if_neg (by omega)] at r
    rw [if_neg (by omega)] at k
    exact .inr ⟨n1, by omega, .inr (.inr (.inr (.inr (.inr (⟨h1, by omega, by omega⟩)))))⟩
/-- the program's order is the rows' -/
theorem cmp_of_kind (a b : Nat) (ha : a < 18446744073709551616) (hb : b < 18446744073709551616) :
    (kindN a < kindN b → rowN a < rowN b) ∧ (kindN b < kindN a → rowN b < rowN a) ∧
    (kindN a = kindN b → (nan a = true ∧ nan b = true ∧ rowN a = rowN b) ∨
      (nan a = false ∧ nan b = false ∧ (key a < key b ↔ rowN a < rowN b) ∧ (key b < key a ↔ rowN b < rowN a))) := by
  rcases kind_rows a ha with ⟨h1, n1, r1⟩ | ⟨n1, h1, g1⟩ <;> rcases kind_rows b hb with ⟨h2, n2, r2⟩ | ⟨n2, h2, g2⟩
  · exact ⟨fun h => by omega, fun h => by omega, fun h => .inl ⟨n1, n2, by omega⟩⟩
  · exact ⟨fun h => by omega, fun h => by omega, fun h => by omega⟩
  · exact ⟨fun h => by omega, fun h => by omega, fun h => by omega⟩
  · exact ⟨fun h => by omega, fun h => by omega, fun h => .inr ⟨n1, n2, by omega, by omega⟩⟩
theorem cmpN_lt {a b : Nat} (h : rowN a < rowN b) : cmpN a b = -1 := by unfold cmpN; rw [if_pos h]
theorem cmpN_gt {a b : Nat} (h : rowN b < rowN a) : cmpN a b = 1 := by unfold cmpN; rw [if_neg (by omega), if_pos h]
theorem cmpN_eq {a b : Nat} (h : rowN a = rowN b) : cmpN a b = 0 := by unfold cmpN; rw [if_neg (by omega), if_neg (by omega)]
set_option maxHeartbeats 800000 in
theorem compare_any (a b : Nat) (w : World) (ha : a < 18446744073709551616) (hb : b < 18446744073709551616) :
    Calls Try.prog 21 #[.float .f64 a, .float .f64 b] w fun e w' => e = .returned (.int .i64 (cmpN a b)) ∧ w = w' := by
  obtain ⟨m1, m2, m3⟩ := cmp_of_kind a b ha hb
  have ka := kind_le a ha
  have kb := kind_le b hb
  generalize hk : kindN a = k at *
  generalize hn : kindN b = n at *
  have HK := Lib.hid hk
  have HN := Lib.hid hn
  clear hk hn
  by_cases h1 : k < n
  · have HC := Lib.hid (cmpN_lt (m1 h1))
    clear m1 m2 m3
    go_enter Try.func21, Try.ntmps21
    go_wp2_with fail
    refine (kind_is a k _ ha HK).mono ?_
    rintro e w' ⟨rfl, rfl⟩
    go_wp2_with fail
    refine (kind_is b n _ hb HN).mono ?_
    rintro e w' ⟨rfl, rfl⟩
    go_wp2_with fail
    go_ret
    exact ⟨ret_int (by rw [HC.out]), rfl⟩
  · by_cases h2 : n < k
    · have HC := Lib.hid (cmpN_gt (m2 h2))
      clear m1 m2 m3
      go_enter Try.func21, Try.ntmps21
      go_wp2_with fail
      refine (kind_is a k _ ha HK).mono ?_
      rintro e w' ⟨rfl, rfl⟩
      go_wp2_with fail
      refine (kind_is b n _ hb HN).mono ?_
      rintro e w' ⟨rfl, rfl⟩
      go_wp2_with fail
      go_ret
      exact ⟨ret_int (by rw [HC.out]), rfl⟩
    · obtain rfl : k = n := by omega
      have m3 := m3 rfl
      clear m1 m2
      obtain ⟨x, y, z, hx, hy, HC⟩ : ∃ (x y : Bool) (z : Int), (FloatKind.f64.format.order a b == some Ordering.lt) = x ∧ (FloatKind.f64.format.order a b == some Ordering.gt) = y ∧ Hid (cmpN a b = if x then -1 else if y then 1 else 0) := by
        rcases m3 with ⟨n1, n2, r⟩ | ⟨n1, n2, r1, r2⟩
        · refine ⟨false, false, 0, ?_, ?_, cmpN_eq r⟩
          · show (Ieee.double.order a b == _) = _; rw [order_nan a b (.inl n1)]; rfl
          · show (Ieee.double.order a b == _) = _; rw [order_nan a b (.inl n1)]; rfl
        · refine ⟨_, _, 0, cmp_lt a b n1 n2 _ rfl, cmp_gt a b n1 n2 _ rfl, ?_⟩
          by_cases c1 : key a < key b
          · rw [decide_eq_true c1]; exact cmpN_lt (r1.1 c1)
          · rw [decide_eq_false c1]
            by_cases c2 : key b < key a
            · rw [decide_eq_true c2]; exact cmpN_gt (r2.1 c2)
            · rw [decide_eq_false c2]; exact cmpN_eq (by omega)
      clear m3
      cases x <;> cases y
      all_goals
        go_enter Try.func21, Try.ntmps21
        go_wp2_with fail
        refine (kind_is a k _ ha HK).mono ?_
        rintro e w' ⟨rfl, rfl⟩
        go_wp2_with fail
        refine (kind_is b k _ hb HN).mono ?_
        rintro e w' ⟨rfl, rfl⟩
        go_wp2_with fail
        go_ret
        exact ⟨ret_int (by rw [HC.out]; rfl), rfl⟩
theorem of_any (b : Nat) (w : World) (hb : b < 18446744073709551616) :
    Calls Try.prog 19 #[.int .u64 b] w fun e w' => e = .returned (.float .f64 b) ∧ Below w.heap.size w w' := by
  have H2 := Lib.hid (hexNum_hexOf b hb)
  go_enter Try.func19, Try.ntmps19
  go_wp2_with fail
  refine (hex_any b _ hb).mono ?_
  rintro e w1 ⟨rfl, hb1⟩
  go_wp2_with fail
  refine (sparse_any _ _).mono ?_
  rintro e w2 ⟨rfl, rfl⟩
  rw [H2.out]
  go_wp2_with fail
  go_ret
  exact ⟨rfl, hb1⟩
theorem rtext_any (b : Nat) (w : World) (hb : b < 18446744073709551616) :
    Calls Try.prog 16 #[.int .u64 b] w fun e w' => e = .returned (.string ⟨(hexOf (canon b)).toArray⟩) ∧ Below w.heap.size w w' := by
  have hk6 := kind_le b hb
  by_cases hn : nan b = true
  · have HK := Lib.hid ((kind_nan b hb).2 hn)
    have HT : Hid (hexOf (canon b) = [55, 102, 102, 56, 48, 48, 48, 48, 48, 48, 48, 48, 48, 48, 48, 49]) := by
      have : canon b = 9221120237041090561 := by unfold canon; rw [hn]; rfl
      rw [this]; exact Lib.hid (by decide +kernel)
    clear hn hk6
    go_enter Try.func16, Try.ntmps16
    go_wp2_with (go_at_call 20; refine (rkind_is b 0 _ hb HK).mono ?_; rintro e w' ⟨rfl, rfl⟩)
    go_ret
    exact ⟨ret_str (by rw [HT.out]), Below.refl _ _⟩
  · have hk0 : ¬ kindN b = 0 := fun e => hn ((kind_nan b hb).1 e)
    have HT : Hid (canon b = b) := by unfold canon; rw [if_neg hn]; rfl
    generalize hk : kindN b = k at *
    have HK := Lib.hid hk
    have hke : ((k : Int) == 0) = false := by simp; omega
    clear hn hk hk0
    go_enter Try.func16, Try.ntmps16
    go_wp2_with fail
    refine (rkind_is b k _ hb HK).mono ?_
    rintro e w' ⟨rfl, rfl⟩
    go_wp2_with fail
    refine (hex_any b _ hb).mono ?_
    rintro e w1 ⟨rfl, hb1⟩
    go_wp2_with fail
    go_ret
    exact ⟨ret_str (by rw [HT.out]), hb1⟩
end Go.Proofs.Ytflcbbohnkgokaa
