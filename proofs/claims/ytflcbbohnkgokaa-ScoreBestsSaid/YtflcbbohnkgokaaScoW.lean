/- Contracts of the walks of the score's Parse, Text, Kind, and of the references' Kind, Row, Compare: each returns what its plain Lean function says; no condition but the arguments' own ranges. -/
import Derived.Test.YtflcbbohnkgokaaScoP
import Derived.Test.YtflcbbohnkgokaaHexRow
import Derived.Laws.Externs
import Derived.Laws.Cover2
namespace Go.Proofs.Ytflcbbohnkgokaa
open Go.RowKit
open Go.PlainAid (bt get_bt bt_nonneg bt_le)
set_option linter.unusedVariables false
theorem frombits_run (n : Int) (w : World) : (callFunc 31 #[.int .u64 n]).run Try.prog w = .ok (.value (.float .f64 n.toNat)) w := by kernel_rfl
theorem tobits_run (b : Nat) (w : World) : (callFunc 32 #[.float .f64 b]).run Try.prog w = .ok (.value (.int .u64 b)) w := by kernel_rfl
theorem ret_fb {k : FloatKind} {a b : Nat} {x y : Bool} (h : a = b) (h2 : x = y) : Ending.returned (.tuple #[.float k a, .bool x]) = .returned (.tuple #[.float k b, .bool y]) := by rw [h, h2]
theorem sparse_any (s : ByteArray) (w : World) :
    Calls Try.prog 12 #[.string s] w fun e w' => e = .returned (.tuple #[.float .f64 (hexNum s), .bool (hexOk s)]) ∧ w = w' := by
  have hfb := frombits_run
  by_cases h16 : s.size = 16
  · have hb := get_bt s
    go_enter Try.func12, Try.ntmps12
    go_wp2
    go_loop [4, 12] (fun d i => ∃ k : Nat, k ≤ 16 ∧ i = .int .i64 k ∧ hexAll (s.data.toList.take k) = true ∧ d = .int .u64 (hexVal (s.data.toList.take k) : Nat)) (fun _ i => 16 - (intOf i).toNat)
    case atStart => exact ⟨0, Nat.zero_le _, rfl, rfl, rfl⟩
    case round =>
      obtain ⟨k, hk, rfl, ha, rfl⟩ := hrel
      by_cases hlt : k < 16
      · have h0 := bt_nonneg s k
        have h1 := bt_le s k
        have hv := hexVal_take_lt s k (by omega) ha
        go_wp2
        · go_round
          have hd := dv_low _ ‹48 ≤ bt s k› ‹_›
          have := hex_step s k (by omega) ha (by omega)
          case rel => exact ⟨k + 1, by omega, by go_num, this.1, by rw [this.2, hd]; exact congrArg _ (by go_arith)⟩
          case measure => simp [intOf]; omega
        · go_round
          have hd := dv_mid _ ‹97 ≤ bt s k› ‹_›
          have := hex_step s k (by omega) ha (by omega)
          case rel => exact ⟨k + 1, by omega, by go_num, this.1, by rw [this.2, hd]; exact congrArg _ (by go_arith)⟩
          case measure => simp [intOf]; omega
        all_goals
          go_ret2
          have hd := dv_none (bt s k) (by omega) (by omega)
          have := hex_stop s k (by omega) (by omega)
          exact ⟨ret_fb (by rw [this.1]) (by rw [this.2]), rfl⟩
      · go_wp2
        go_ret2
        obtain rfl : k = 16 := by omega
        have := hex_done s h16 ha
        exact ⟨ret_fb this.1.symm (by rw [this.2]), rfl⟩
  · go_enter Try.func12, Try.ntmps12
    go_wp2
    go_ret2
    exact ⟨ret_fb (by simp [hexNum, hexOk, h16]) (by simp [hexOk, h16]), rfl⟩
theorem signbit_any (b : Nat) (w : World) (h : b < 18446744073709551616) :
    Calls Try.prog 33 #[.float .f64 b] w fun e w' => e = .returned (.bool (decide (9223372036854775808 ≤ b))) ∧ w = w' := by
  have htb := tobits_run
  go_enter Try.func33, Try.ntmps33
  go_wp2
  go_ret
  refine ⟨ret_bool ?_, rfl⟩
  rw [Bool.eq_iff_iff]
  simp only [decide_eq_true_eq]
  go_arith
theorem neq_self (b : Nat) (v : Bool) (h : nan b = v) : (FloatKind.f64.format.order b b != some Ordering.eq) = v := by
  show (Ieee.double.order b b != some Ordering.eq) = v
  cases v
  · rw [order_key b b h h]; simp [compare, compareOfLessAndEq]
  · rw [order_nan b b (.inl h)]; rfl
theorem digits_at (d : Nat) (h : d < 16) : ((ByteArray.mk #[48, 49, 50, 51, 52, 53, 54, 55, 56, 57, 97, 98, 99, 100, 101, 102])[d]'h).toNat = (hexDig d).toNat := by
  have : ∀ d : Fin 16, ((ByteArray.mk #[48, 49, 50, 51, 52, 53, 54, 55, 56, 57, 97, 98, 99, 100, 101, 102])[d.val]'d.isLt).toNat = (hexDig d.val).toNat := by decide +kernel
  exact this ⟨d, h⟩
theorem conv_row_t (wx : World) (l : List UInt8) (c : Nat) (A : Array Value) (T : TypeId) (hA : A = (byteVals l).toArray) : (convert 52 9 (.slice (some ⟨wx.heap.size, 0, none⟩) l.length c)).run Try.prog (wx.alloc (.cells A T)) = .ok (.string ⟨l.toArray⟩) (wx.alloc (.cells A T)) := by
  subst hA
  rw [← strOf_byteVals l]
  refine run_convert_bytes_arg _ 52 5 Try.underlying52 Try.underlying5 _ 0 l.length c (l.map fun c => (c.toNat : Int)) (by simp) (fun i hi => ?_) 9 Try.underlying9
  simp [go_sem, byteVals, hi]
theorem hexCells_zero (n : Nat) : hexCells n 0 = #[.int .u8 0, .int .u8 0, .int .u8 0, .int .u8 0, .int .u8 0, .int .u8 0, .int .u8 0, .int .u8 0, .int .u8 0, .int .u8 0, .int .u8 0, .int .u8 0, .int .u8 0, .int .u8 0, .int .u8 0, .int .u8 0] := rfl
theorem stext_bits (b c : Nat) (w : World) (hb : b < 18446744073709551616) (hc : c < 18446744073709551616) (v : Bool) (hn : nan b = v) (hcc : Hid (canon b = c)) :
    Calls Try.prog 15 #[.float .f64 b] w fun e w' => e = .returned (.string ⟨(hexOf c).toArray⟩) ∧ Below w.heap.size w w' := by
  have htb := tobits_run
  have ho := neq_self b v hn
  have HZ := Lib.hid (hexCells_zero c)
  have kc : ∀ w : World, (convert 52 9 (.slice (some ⟨w.heap.size, 0, none⟩) 16 16)).run Try.prog (w.alloc (.cells (hexCells c 16) 51)) = .ok (.string ⟨(hexOf c).toArray⟩) (w.alloc (.cells (hexCells c 16) 51)) := fun w => by
    have := conv_row_t w (hexOf c) 16 (hexCells c 16) 51 (by simp [hexCells, hexOf])
    rwa [show (hexOf c).length = 16 from hexTo_length c 16] at this
  cases v
  · obtain rfl : b = c := by rw [← hcc.out]; unfold canon; rw [hn]; rfl
    clear hn
    go_enter Try.func15, Try.ntmps15
    go_wp2
    go_loopw [11] (fun i wr => ∃ k : Nat, k ≤ 16 ∧ i = .int .i64 k ∧ wr = w.alloc (.cells (hexCells b k) 51)) (fun i _ => (16 - intOf i).toNat)
    case atStart => exact ⟨0, Nat.zero_le _, rfl, by rw [HZ.out]⟩
    case round =>
      obtain ⟨k, hk, rfl, rfl⟩ := hrel
      by_cases hlt : k < 16
      · obtain ⟨d, hd, hd16, HD⟩ := hex_digit b k hc hlt
        have hz := hexCells_size b k hk
        have hda := digits_at d hd16
        have hd0 : (0 : Int) ≤ (d : Int) := by omega
        have hd1 : (d : Int) < 16 := by omega
        go_wp2
        go_roundw
        case rel => exact ⟨k + 1, by omega, by go_num, by rw [hexCells_set b k hlt _ _ rfl HD]⟩
        case measure => simp [intOf]; omega
      · obtain rfl : k = 16 := by omega
        go_wp2
        go_ret
        exact ⟨rfl, (Below.refl _ _).alloc (Nat.le_refl _) _⟩
  · have HE : Hid (Value.int .u64 9221120237041090561 = Value.int .u64 (c : Int)) := by
      have : 9221120237041090561 = c := by rw [← hcc.out]; unfold canon; rw [hn]; rfl
      subst this; rfl
    clear hn
    go_enter Try.func15, Try.ntmps15
    go_wp2
    rw [HE.out]
    go_loopw [11] (fun i wr => ∃ k : Nat, k ≤ 16 ∧ i = .int .i64 k ∧ wr = w.alloc (.cells (hexCells c k) 51)) (fun i _ => (16 - intOf i).toNat)
    case atStart => exact ⟨0, Nat.zero_le _, rfl, by rw [HZ.out]⟩
    case round =>
      obtain ⟨k, hk, rfl, rfl⟩ := hrel
      by_cases hlt : k < 16
      · obtain ⟨d, hd, hd16, HD⟩ := hex_digit c k hc hlt
        have hz := hexCells_size c k hk
        have hda := digits_at d hd16
        have hd0 : (0 : Int) ≤ (d : Int) := by omega
        have hd1 : (d : Int) < 16 := by omega
        go_wp2
        go_roundw
        case rel => exact ⟨k + 1, by omega, by go_num, by rw [hexCells_set c k hlt _ _ rfl HD]⟩
        case measure => simp [intOf]; omega
      · obtain rfl : k = 16 := by omega
        go_wp2
        go_ret
        exact ⟨rfl, (Below.refl _ _).alloc (Nat.le_refl _) _⟩
theorem stext_any (b : Nat) (w : World) (hb : b < 18446744073709551616) :
    Calls Try.prog 15 #[.float .f64 b] w fun e w' => e = .returned (.string ⟨(hexOf (canon b)).toArray⟩) ∧ Below w.heap.size w w' :=
  stext_bits b (canon b) w hb (canon_lt b hb) _ rfl rfl
end Go.Proofs.Ytflcbbohnkgokaa
