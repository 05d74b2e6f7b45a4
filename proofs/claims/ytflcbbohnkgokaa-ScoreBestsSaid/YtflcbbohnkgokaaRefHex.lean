/- Contracts of the walks of the reference's Bits and Hex: each returns what its plain Lean function says; no condition but the arguments' own ranges. -/
import Derived.Test.YtflcbbohnkgokaaRows
import Derived.Test.YtflcbbohnkgokaaHexP
import Derived.WalkKit
import Derived.ProofKit
import Derived.Outline
import Derived.Below
import Derived.Laws.ShiftsVar
import Derived.Handy
import Derived.PlainAid
import Derived.Lib.Hide
import Derived.WalkLawsBesides
import Derived.WalkSpells
import Derived.Laws.BytesArg
namespace Go.Proofs.Ytflcbbohnkgokaa
open Go.RowKit
open Go.PlainAid (bt get_bt bt_nonneg bt_le)
set_option linter.unusedVariables false

theorem ret_int {k : IntKind} {a b : Int} (h : a = b) : Ending.returned (.int k a) = .returned (.int k b) := by rw [h]
theorem ret_str {a b : ByteArray} (h : a = b) : Ending.returned (.string a) = .returned (.string b) := by rw [h]
theorem ret_bool {a b : Bool} (h : a = b) : Ending.returned (.bool a) = .returned (.bool b) := by rw [h]
theorem ret_ib {k : IntKind} {a b : Int} {x y : Bool} (h : a = b) (h2 : x = y) : Ending.returned (.tuple #[.int k a, .bool x]) = .returned (.tuple #[.int k b, .bool y]) := by rw [h, h2]
theorem bits_any (s : ByteArray) (w : World) :
    Calls Try.prog 13 #[.string s] w fun e w' => e = .returned (.tuple #[.int .u64 (hexNum s : Nat), .bool (hexOk s)]) ∧ w = w' := by
  by_cases h16 : s.size = 16
  · have hb := get_bt s
    go_enter Try.func13, Try.ntmps13
    go_wp2
    go_loop [4, 5] (fun d i => ∃ k : Nat, k ≤ 16 ∧ i = .int .i64 k ∧ hexAll (s.data.toList.take k) = true ∧ d = .int .u64 (hexVal (s.data.toList.take k) : Nat)) (fun _ i => 16 - (intOf i).toNat)
    case atStart => exact ⟨0, Nat.zero_le _, rfl, rfl, rfl⟩
    case round =>
      obtain ⟨k, hk, rfl, ha, rfl⟩ := hrel
      by_cases hlt : k < 16
      · have h0 := bt_nonneg s k
        have h1 := bt_le s k
        have hv := hexVal_take_lt s k (by omega) ha
        go_wp2
        · go_round
          have hd := dv_low _ ‹48 ≤ bt s k› ‹_›
          have := hex_step s k (by omega) ha (by omega)
          case rel => exact ⟨k + 1, by omega, by go_num, this.1, by rw [this.2, hd]; exact congrArg _ (by simp only [IntKind.wrap_u64]; omega)⟩
          case measure => simp [intOf]; omega
        · go_round
          have hd := dv_mid _ ‹97 ≤ bt s k› ‹_›
          have := hex_step s k (by omega) ha (by omega)
          case rel => exact ⟨k + 1, by omega, by go_num, this.1, by rw [this.2, hd]; exact congrArg _ (by simp only [IntKind.wrap_u64]; omega)⟩
          case measure => simp [intOf]; omega
        all_goals
          go_ret2
          have hd := dv_none (bt s k) (by omega) (by omega)
          have := hex_stop s k (by omega) (by omega)
          exact ⟨ret_ib (by rw [this.1]; rfl) (by rw [this.2]), rfl⟩
      · go_wp2
        go_ret2
        obtain rfl : k = 16 := by omega
        have := hex_done s h16 ha
        exact ⟨ret_ib (by rw [this.1]) (by rw [this.2]), rfl⟩
  · go_enter Try.func13, Try.ntmps13
    go_wp2
    go_ret2
    exact ⟨ret_ib (by simp [hexNum, hexOk, h16]) (by simp [hexOk, h16]), rfl⟩
theorem conv1 (wx : World) (n : Int) : (convert 52 9 (.slice (some ⟨wx.heap.size, 0, none⟩) 1 1)).run Try.prog (wx.alloc (.cells #[.int .u8 n] 5)) = .ok (.string ⟨#[UInt8.ofNat n.toNat]⟩) (wx.alloc (.cells #[.int .u8 n] 5)) := by
  refine run_convert_bytes_arg _ 52 5 Try.underlying52 Try.underlying5 _ 0 1 1 [n] rfl (fun i hi => ?_) 9 Try.underlying9
  obtain rfl : i = 0 := by omega
  simp [go_sem]
theorem hex_digit (n k : Nat) (hn : n < 18446744073709551616) (hk : k < 16) : ∃ d : Nat, bits .and .u64 ((n : Int) / 2 ^ (60 - 4 * k)) 15 = (d : Int) ∧ d < 16 ∧ Hid (hexTo n (k + 1) = hexTo n k ++ [hexDig d]) := by
  have e : (2 : Nat) ^ (60 - 4 * k) = 16 ^ (15 - k) := by
    rw [show (16 : Nat) = 2 ^ 4 from rfl, ← Nat.pow_mul]; congr 1; omega
  refine ⟨n / 16 ^ (15 - k) % 16, ?_, Nat.mod_lt _ (by decide), hexTo_succ n k⟩
  have e2 : ((n : Int) / 2 ^ (60 - 4 * k)) = ((n / 16 ^ (15 - k) : Nat) : Int) := by
    rw [← e]; simp
  have hle : n / 16 ^ (15 - k) ≤ n := Nat.div_le_self _ _
  rw [e2]
  generalize n / 16 ^ (15 - k) = m at *
  rw [u64_and _ _ (by omega) (by omega) (by omega) (by omega), Int.toNat_natCast]
  exact congrArg _ (Nat.and_two_pow_sub_one_eq_mod m 4)
theorem snoc_str (l : List UInt8) (c d : UInt8) (r : List UInt8) (h : r = l ++ [d]) (hc : c = d) : Value.string (⟨l.toArray⟩ ++ ⟨#[c]⟩) = Value.string ⟨r.toArray⟩ := by
  subst hc h
  congr 1
theorem hex_any (n : Nat) (w : World) (hn : n < 18446744073709551616) :
    Calls Try.prog 17 #[.int .u64 n] w fun e w' => e = .returned (.string ⟨(hexOf n).toArray⟩) ∧ Below w.heap.size w w' := by
  have kc := conv1
  go_enter Try.func17, Try.ntmps17
  go_wp2
  go_loopw [3, 4] (fun s i wr => ∃ k : Nat, k ≤ 16 ∧ i = .int .i64 (60 - 4 * k) ∧ s = .string ⟨(hexTo n k).toArray⟩ ∧ Below w.heap.size w wr) (fun _ i _ => (64 + intOf i).toNat)
  case atStart => exact ⟨0, Nat.zero_le _, rfl, rfl, Below.refl _ _⟩
  case round =>
    obtain ⟨k, hk, rfl, rfl, hb⟩ := hrel
    have hl : (hexTo n k).length ≤ 16 := by rw [hexTo_length]; exact hk
    by_cases hlt : k < 16
    · obtain ⟨d, hd, hd16, HD⟩ := hex_digit n k hn hlt
      go_wp2
      · go_roundw
        case rel => exact ⟨k + 1, by omega, by go_num, snoc_str _ _ _ _ HD (hexDig_low d (by omega)), hb.alloc hb.size _⟩
        case measure => simp [intOf]; omega
      · go_roundw
        case rel => exact ⟨k + 1, by omega, by go_num, snoc_str _ _ _ _ HD (hexDig_high d (by omega)), hb.alloc hb.size _⟩
        case measure => simp [intOf]; omega
    · go_wp2
      go_ret
      obtain rfl : k = 16 := by omega
      exact ⟨rfl, hb⟩
end Go.Proofs.Ytflcbbohnkgokaa
