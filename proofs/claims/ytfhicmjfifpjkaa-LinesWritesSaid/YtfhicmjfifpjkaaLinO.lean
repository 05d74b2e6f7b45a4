/- Numbers: the reference's Number, a reader's Number. -/
import Derived.Test.YtfhicmjfifpjkaaLinN
namespace Go.Proofs.Ytfhicmjfifpjkaa
open Go.RowKit
set_option linter.unusedVariables false
theorem tuple_ib {a b : Int} {x y : Bool} (h1 : a = b) (h2 : x = y) : Ending.returned (.tuple #[.int .i64 a, .bool x]) = .returned (.tuple #[.int .i64 b, .bool y]) := by rw [h1, h2]
def numPair : Option Nat → Int × Bool
  | none => (0, false)
  | some n => (n, true)
theorem front_cases (l : List UInt8) : (numFront l = false ∧ (l.length < 1 ∨ (1 ≤ l.length ∧ 9 < l.length) ∨ (1 ≤ l.length ∧ l.length ≤ 9 ∧ 1 < l.length ∧ by8 l 0 = 48))) ∨ (numFront l = true ∧ 1 ≤ l.length ∧ l.length ≤ 9 ∧ (l.length = 1 ∨ (1 < l.length ∧ by8 l 0 ≠ 48))) := by
  unfold numFront
  by_cases h1 : 1 ≤ l.length
  · by_cases h2 : l.length ≤ 9
    · by_cases h3 : 1 < l.length
      · by_cases h4 : by8 l 0 = 48
        · exact .inl ⟨by simp [h3, h4], .inr (.inr ⟨h1, h2, h3, h4⟩)⟩
        · exact .inr ⟨by simp [h1, h2, h4], h1, h2, .inr ⟨h3, h4⟩⟩
      · exact .inr ⟨by simp [h1, h2, h3], h1, h2, .inl (by omega)⟩
    · exact .inl ⟨by simp [h2], .inr (.inl ⟨h1, by omega⟩)⟩
  · exact .inl ⟨by simp [h1], .inl (by omega)⟩
set_option maxHeartbeats 1600000 in
theorem rnumber_any (l : List UInt8) (w : World) (hl : l.length ≤ 9223372036854775807) (v : Option Nat) (hv : Hid (numL l = v)) :
    Calls Try.prog 22 #[.string ⟨l.toArray⟩] w fun e w' => e = .returned (.tuple #[.int .i64 (numPair v).1, .bool (numPair v).2]) ∧ w = w' := by
  have hgb := get_by8 l
  have h8 := by8_le l 0
  rcases front_cases l with ⟨hf, h⟩ | ⟨hf, h1, h2, h3⟩
  · obtain rfl : v = none := by rw [← hv.out]; exact numL_front hf
    clear hf hv
    rcases h with h | ⟨h1, h⟩ | ⟨h1, h2, h3, h4⟩
    · have hd : decide ((l.length : Int) < 1) = true := decide_eq_true (by omega)
      go_enter Try.func22, Try.ntmps22
      go_wp2_with fail
      go_ret2
      exact ⟨rfl, rfl⟩
    · have hd : decide ((l.length : Int) < 1) = false := decide_eq_false (by omega)
      have hd2 : decide ((9 : Int) < (l.length : Int)) = true := decide_eq_true (by omega)
      go_enter Try.func22, Try.ntmps22
      go_wp2_with fail
      go_ret2
      exact ⟨rfl, rfl⟩
    · have hd : decide ((l.length : Int) < 1) = false := decide_eq_false (by omega)
      have hd2 : decide ((9 : Int) < (l.length : Int)) = false := decide_eq_false (by omega)
      have hd3 : decide ((1 : Int) < (l.length : Int)) = true := decide_eq_true (by omega)
      have hd4 : ((by8 l 0 : Int) == 48) = true := ieq_t h4
      clear h4
      go_enter Try.func22, Try.ntmps22
      go_wp2_with fail
      go_ret2
      exact ⟨rfl, rfl⟩
  · have hd : decide ((l.length : Int) < 1) = false := decide_eq_false (by omega)
    have hd2 : decide ((9 : Int) < (l.length : Int)) = false := decide_eq_false (by omega)
    have HF := Lib.hid hf
    clear hf
    rcases h3 with h3 | ⟨h3, h4⟩
    case' inl =>
      have hd3 : decide ((1 : Int) < (l.length : Int)) = false := decide_eq_false (by omega)
    case' inr =>
      have hd3 : decide ((1 : Int) < (l.length : Int)) = true := decide_eq_true (by omega)
      have hd4 : ((by8 l 0 : Int) == 48) = false := ieq_f h4
      clear h4
    all_goals
      clear h3
      go_enter Try.func22, Try.ntmps22
      go_wp2_with fail
      go_loop [4, 5] (fun n i => ∃ k N : Nat, i = .int .i64 k ∧ k ≤ l.length ∧ n = .int .i64 N ∧ N = numV (l.take k) ∧ N ≤ 1000000000 ∧ ∀ i, i < k → digC (by8 l i) = true) (fun _ i => l.length - (intOf i).toNat)
      case atStart => exact ⟨0, 0, rfl, Nat.zero_le _, rfl, rfl, by omega, fun i hi => absurd hi (by omega)⟩
      case round =>
        obtain ⟨k, N, rfl, hk, rfl, hN, hNb, hall⟩ := hrel
        have HN := Lib.hid hN
        have HA := Lib.hid hall
        clear hN hall
        have k8 := by8_le l k
        have k0 : (0 : Int) ≤ (k : Int) := by omega
        by_cases hlt : k < l.length
        · have k1 : (k : Int) < (l.length : Int) := by omega
          have hdk : decide (k < l.length) = true := decide_eq_true hlt
          cases hdc : digC (by8 l k)
          · have HS := Lib.hid (numL_stop hlt hdc)
            have hn := digC_no hdc
            obtain rfl : v = none := by rw [← hv.out]; exact HS.out
            clear hdc
            by_cases h48 : by8 l k < 48
            · have hd5 : decide ((by8 l k : Int) < 48) = true := decide_eq_true (by omega)
              clear hn
              go_wp2_with fail
              go_ret2
              exact ⟨rfl, rfl⟩
            · have hd5 : decide ((by8 l k : Int) < 48) = false := decide_eq_false (by omega)
              have hd6 : decide ((57 : Int) < (by8 l k : Int)) = true := decide_eq_true (by omega)
              clear hn
              go_wp2_with fail
              go_ret2
              exact ⟨rfl, rfl⟩
          · have hy := digC_yes hdc
            obtain ⟨y1, y2⟩ := hy
            have HD := Lib.hid hdc
            have hd5 : decide ((by8 l k : Int) < 48) = false := decide_eq_false (by omega)
            have hd6 : decide ((57 : Int) < (by8 l k : Int)) = false := decide_eq_false (by omega)
            have HT := Lib.hid (numV_take l k hlt)
            have HB : Hid (numV (l.take (k + 1)) ≤ 1000000000) := Lib.hid (by
              have h9 := numV_le l (k + 1) (by omega) (fun i hi => if e : i = k then e ▸ hdc else HA.out i (by omega))
              have : 10 ^ (k + 1) ≤ 10 ^ 9 := Nat.pow_le_pow_right (by omega) (by omega)
              omega)
            clear hdc
            go_wp2_with fail
            go_round
            case rel => exact ⟨k + 1, numV (l.take (k + 1)), by go_num, by omega, by rw [HT.out, ← HN.out]; congr 1; omega, rfl, HB.out, fun i hi => if e : i = k then e ▸ HD.out else HA.out i (by omega)⟩
            case measure => simp [intOf]; omega
        · obtain rfl : k = l.length := by omega
          have hdk : decide (l.length < l.length) = false := decide_eq_false (by omega)
          have hvv : v = some N := by rw [← hv.out, numL_yes HF.out HA.out, HN.out, List.take_length]
          subst hvv
          go_wp2_with fail
          go_ret2
          exact ⟨rfl, rfl⟩
end Go.Proofs.Ytfhicmjfifpjkaa
