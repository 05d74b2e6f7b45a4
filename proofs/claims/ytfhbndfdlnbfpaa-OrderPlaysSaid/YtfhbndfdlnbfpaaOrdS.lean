/- The row's numbers: plain, and the contract of the walk of Luby. -/
import Derived.Test.YtfhbndfdlnbfpaaOrdR
namespace Go.Proofs.Ytfhbndfdlnbfpaa
open Go.RowKit
set_option linter.unusedVariables false
inductive LubyIs : Nat → Nat → Prop
  | top (k : Nat) : LubyIs (2 ^ (k + 1) - 1) (2 ^ k)
  | step (i k v : Nat) (h1 : 2 ^ k ≤ i) (h2 : i < 2 ^ (k + 1) - 1) (h : LubyIs (i - (2 ^ k - 1)) v) : LubyIs i v
theorem luby_low (i : Int) (w : World) (h : i < 1) : Calls Try.prog 10 #[.int .i64 i] w fun e w' => e = .returned (.int .i64 0) ∧ w' = w := by
  go_enter Try.func10, Try.ntmps10
  go_wp2_with fail
  go_ret
  exact ⟨rfl, rfl⟩
theorem pow_lt {a b : Nat} (h : 2 ^ a ≤ 2 ^ b) : a ≤ b := (Nat.pow_le_pow_iff_right (by omega)).1 h
theorem pow_cast (m : Nat) : ((2 ^ m : Nat) : Int) = (2 : Int) ^ m := by simp
theorem pow_le61 {m : Nat} (h : m ≤ 61) : 2 ^ m ≤ 2305843009213693952 := by
  have : 2 ^ m ≤ 2 ^ 61 := Nat.pow_le_pow_right (by omega) h
  simpa using this
theorem wrap_pow {m P : Nat} (h : m ≤ 61) (hP : 2 ^ m = P) : wrap64 ((2 : Int) ^ m) = (P : Int) := by
  have h1 := pow_le61 h
  rw [hP] at h1
  have h2 : (2 : Int) ^ m = (P : Int) := by rw [← pow_cast, hP]
  rw [h2]
  unfold wrap64; omega
theorem luby_pos {i v : Nat} (h : LubyIs i v) : 1 ≤ i := by
  cases h with
  | top k => have := Nat.one_le_two_pow (n := k); rw [Nat.pow_succ]; omega
  | step _ k _ h1 h2 h => have := Nat.one_le_two_pow (n := k); omega
theorem luby_step {i v k : Nat} (h : LubyIs i v) (h1 : 2 ^ k ≤ i) (h2 : i < 2 ^ (k + 1) - 1) : LubyIs (i - (2 ^ k - 1)) v := by
  cases h with
  | top m =>
    exfalso
    have a1 : k < m + 1 := (Nat.pow_lt_pow_iff_right (a := 2) (by omega)).1 (by have := Nat.one_le_two_pow (n := m + 1); omega)
    have a2 : m + 1 < k + 1 := (Nat.pow_lt_pow_iff_right (a := 2) (by omega)).1 (by omega)
    omega
  | step _ m _ g1 g2 h =>
    have a1 : k < m + 1 := (Nat.pow_lt_pow_iff_right (a := 2) (by omega)).1 (by omega)
    have a2 : m < k + 1 := (Nat.pow_lt_pow_iff_right (a := 2) (by omega)).1 (by omega)
    obtain rfl : k = m := by omega
    exact h
theorem luby_top {v k : Nat} (h : LubyIs (2 ^ (k + 1) - 1) v) : v = 2 ^ k := by
  generalize hi : 2 ^ (k + 1) - 1 = i at h
  cases h with
  | top m =>
    have h1 := Nat.one_le_two_pow (n := k + 1)
    have h2 := Nat.one_le_two_pow (n := m + 1)
    have : m + 1 = k + 1 := Nat.pow_right_inj (a := 2) (by omega) |>.1 (by omega)
    obtain rfl : m = k := by omega
    rfl
  | step _ m _ g1 g2 h =>
    exfalso
    have a1 : m < k + 1 := (Nat.pow_lt_pow_iff_right (a := 2) (by omega)).1 (by have := Nat.one_le_two_pow (n := k + 1); omega)
    have a2 : k + 1 < m + 1 := (Nat.pow_lt_pow_iff_right (a := 2) (by omega)).1 (by omega)
    omega
theorem luby_total (i : Nat) (h : 1 ≤ i) : ∃ v, LubyIs i v := by
  induction i using Nat.strongRecOn with
  | ind i ih =>
    obtain ⟨k, h1, h2⟩ : ∃ k, 2 ^ k ≤ i ∧ i < 2 ^ (k + 1) := ⟨i.log2, Nat.log2_self_le (by omega), Nat.lt_log2_self⟩
    by_cases he : i = 2 ^ (k + 1) - 1
    · exact ⟨2 ^ k, he ▸ .top k⟩
    · have hk : 1 ≤ k := by
        apply Classical.byContradiction
        intro hn
        obtain rfl : k = 0 := by omega
        simp at h1 h2 he
        omega
      obtain ⟨n, rfl⟩ : ∃ n, k = n + 1 := ⟨k - 1, by omega⟩
      have h3 := Nat.one_le_two_pow (n := n)
      have e1 : 2 ^ (n + 1) = 2 * 2 ^ n := by rw [Nat.pow_succ]; omega
      obtain ⟨v, hv⟩ := ih (i - (2 ^ (n + 1) - 1)) (by omega) (by omega)
      exact ⟨v, .step i (n + 1) v h1 (by omega) hv⟩
set_option maxRecDepth 100000 in
set_option maxHeartbeats 1000000 in
theorem luby_any (i : Nat) (w : World) (h0 : 1 ≤ i) (h : i < 2305843009213693952) (v : Nat) (hv : LubyIs i v) : Calls Try.prog 10 #[.int .i64 i] w fun e w' => e = .returned (.int .i64 v) ∧ w' = w := by
  have HV := Lib.hid hv
  clear hv
  go_enter Try.func10, Try.ntmps10
  go_wp2_with fail
  go_loop [0] (fun i => ∃ j : Nat, i = .int .i64 j ∧ 1 ≤ j ∧ j < 2305843009213693952 ∧ LubyIs j v) (fun i => (intOf i).toNat)
  case atStart => exact ⟨i, rfl, h0, h, HV.out⟩
  case round =>
    obtain ⟨j, rfl, j0, j1, hj⟩ := hrel
    have HJ := Lib.hid hj
    clear hj HV h0 h
    go_wp2_with fail
    go_loop [3] (fun k => ∃ m : Nat, k = .int .i64 m ∧ m ≤ 61 ∧ (m = 0 ∨ 2 ^ (m - 1) ≤ j)) (fun k => 62 - (intOf k).toNat)
    case atStart => exact ⟨0, rfl, by omega, .inl rfl⟩
    case round =>
      obtain ⟨m, rfl, m1, m2⟩ := hrel
      have m3 : (m : Int) < 62 := by omega
      obtain ⟨P, hP⟩ : ∃ P, 2 ^ m = P := ⟨_, rfl⟩
      have P0 : 1 ≤ P := by rw [← hP]; exact Nat.one_le_two_pow
      have P1 : P ≤ 2305843009213693952 := by rw [← hP]; exact pow_le61 m1
      have hW := wrap_pow m1 hP
      have HP := Lib.hid hP
      have HM := Lib.hid m2
      clear hP m2
      by_cases hm : P ≤ j
      · go_wp2_with fail
        go_round
        case rel =>
          refine ⟨m + 1, by go_num, ?_, .inr (by simp [HP.out]; exact hm)⟩
          have : m < 61 := (Nat.pow_lt_pow_iff_right (a := 2) (by omega)).1 (by rw [HP.out]; omega)
          omega
        case measure => simp [intOf]; omega
      · obtain ⟨n, rfl⟩ : ∃ n, m = n + 1 := by
          refine ⟨m - 1, ?_⟩
          have : m ≠ 0 := by
            rintro rfl
            have := HP.out
            simp at this
            omega
          omega
        obtain ⟨Q, hQ⟩ : ∃ Q, 2 ^ n = Q := ⟨_, rfl⟩
        have hPQ : P = 2 * Q := by rw [← HP.out, ← hQ, Nat.pow_succ]; omega
        have hQj : Q ≤ j := by
          rcases HM.out with h | h
          · omega
          · simpa [hQ] using h
        have hW2 := wrap_pow (m := n) (by omega) hQ
        have HQ := Lib.hid hQ
        clear hQ
        have Q0 : 1 ≤ Q := by omega
        have Q1 : Q ≤ 2305843009213693952 := by omega
        have hn1 : ((n + 1 : Nat) : Int) - 1 = (n : Int) := by omega
        have HPQ := Lib.hid hPQ
        clear hPQ
        by_cases he : j = P - 1
        · have hv : v = Q := by
            have := HJ.out
            rw [he, ← HP.out] at this
            rw [luby_top this, HQ.out]
          subst hv
          have hd : ((j : Int) == (P : Int) - 1) = true := by rw [beq_iff_eq]; omega
          clear he
          go_wp2_with fail
          go_ret
          exact ⟨rfl, rfl⟩
        · have HS : Hid (LubyIs (j - (Q - 1)) v) := by
            have := luby_step HJ.out (k := n) (by rw [HQ.out]; exact hQj) (by rw [HP.out]; omega)
            rw [HQ.out] at this
            exact this
          have hd : ((j : Int) == (P : Int) - 1) = false := by rw [beq_eq_false_iff_ne]; omega
          have hd2 : ((n : Int) + 1 == 62) = false := by rw [beq_eq_false_iff_ne]; omega
          have hQ2 : 2 ≤ Q := by have := HPQ.out; omega
          clear he
          go_wp2_with fail
          go_round
          case rel => exact ⟨j - (Q - 1), by congr 1; omega, by omega, by omega, HS.out⟩
          case measure => simp [intOf]; omega
end Go.Proofs.Ytfhbndfdlnbfpaa
