/- Contract of the walk of (mark.Digest).Text: sixteen hexadecimal digits of a 64-bit number; no condition but the argument's own range. -/
import Derived.Test.YtcjnjneeignjaaaMarkD
import Derived.Laws.NewBlocks
namespace Go.Proofs.Ytcjnjneeignjaaa
open Go.RowKit
open Go.PlainAid (bt get_bt bt_nonneg bt_le)
set_option linter.unusedVariables false

def byteVals (l : List UInt8) : List Value := l.map fun c => Value.int .u8 (c.toNat : Int)
def hexCells (n k : Nat) : Array Value := (byteVals (hexTo n k) ++ List.replicate (16 - k) (Value.int .u8 0)).toArray
theorem hexCells_size (n k : Nat) (h : k ≤ 16) : (hexCells n k).size = 16 := by simp [hexCells, byteVals, hexTo_length]; omega
theorem hexCells_set (n k : Nat) (h : k < 16) (d : UInt8) (x : Int) (hx : x = d.toNat) (hd : hexTo n (k + 1) = hexTo n k ++ [d]) : (hexCells n k).setIfInBounds k (.int .u8 x) = hexCells n (k + 1) := by
  have hl := hexTo_length n k
  subst hx
  apply Array.toList_inj.1
  rw [Array.toList_setIfInBounds]
  simp only [hexCells, hd, byteVals]
  have e : 16 - k = (16 - (k + 1)) + 1 := by omega
  rw [List.set_append_right _ _ (by simp [hl])]
  simp only [List.length_map, hl, Nat.sub_self]
  rw [e, List.replicate_succ, List.set_cons_zero]
  simp
theorem strOf_byteVals (l : List UInt8) : strOfNums (l.map fun c => (c.toNat : Int)) = ⟨l.toArray⟩ := by
  unfold strOfNums
  congr 1
  simp [Function.comp_def]
/-- 'string(b)' of a row of bytes that lies in a block of its own -/
theorem conv_row (wx : World) (l : List UInt8) (c : Nat) (A : Array Value) (hA : A = (byteVals l).toArray) : (convert 53 9 (.slice (some ⟨wx.heap.size, 0, none⟩) l.length c)).run Try.prog (wx.alloc (.cells A 5)) = .ok (.string ⟨l.toArray⟩) (wx.alloc (.cells A 5)) := by
  subst hA
  rw [← strOf_byteVals l]
  refine run_convert_bytes_arg _ 53 5 Try.underlying53 Try.underlying5 _ 0 l.length c (l.map fun c => (c.toNat : Int)) (by simp) (fun i hi => ?_) 9 Try.underlying9
  simp [go_sem, byteVals, hi]
theorem digestText_any (n : Nat) (w : World) (hn : n < 18446744073709551616) :
    Calls Try.prog 13 #[.int .u64 n] w fun e w' => e = .returned (.string ⟨(hexOf n).toArray⟩) ∧ Below w.heap.size w w' := by
  have hmk : ∀ w, (Instr.makeSlice 53 (.int .i64 16) (.int .i64 16)).run Try.prog w = .ok (.slice (some ⟨w.heap.size, 0, none⟩) 16 16) (w.alloc (.cells (hexCells 0 0) 5)) := fun _ => by kernel_rfl
  have kc : ∀ w : World, (convert 53 9 (.slice (some ⟨w.heap.size, 0, none⟩) 16 16)).run Try.prog (w.alloc (.cells (hexCells n 16) 5)) = .ok (.string ⟨(hexOf n).toArray⟩) (w.alloc (.cells (hexCells n 16) 5)) := fun w => by
    have := conv_row w (hexOf n) 16 (hexCells n 16) (by simp [hexCells, hexOf])
    rwa [show (hexOf n).length = 16 from hexTo_length n 16] at this
  go_enter Try.func13, Try.ntmps13
  go_wp2
  go_loopw [9] (fun i wr => ∃ k : Nat, k ≤ 16 ∧ i = .int .i64 k ∧ wr = w.alloc (.cells (hexCells n k) 5)) (fun i _ => (16 - intOf i).toNat)
  case atStart => exact ⟨0, Nat.zero_le _, rfl, rfl⟩
  case round =>
    obtain ⟨k, hk, rfl, rfl⟩ := hrel
    by_cases hlt : k < 16
    · obtain ⟨d, hd, hd16, HD⟩ := hex_digit n k hn hlt
      have hz := hexCells_size n k hk
      go_wp2
      · go_roundw
        case rel => exact ⟨k + 1, by omega, by go_num, by rw [hexCells_set n k hlt _ _ (by rw [← hexDig_low d (by omega)]; simp [UInt8.toNat_add]; omega) HD]⟩
        case measure => simp [intOf]; omega
      · go_roundw
        case rel => exact ⟨k + 1, by omega, by go_num, by rw [hexCells_set n k hlt _ _ (by rw [← hexDig_high d (by omega)]; simp [UInt8.toNat_add]; omega) HD]⟩
        case measure => simp [intOf]; omega
    · obtain rfl : k = 16 := by omega
      go_wp2
      go_ret
      exact ⟨rfl, (Below.refl _ _).alloc (Nat.le_refl _) _⟩
end Go.Proofs.Ytcjnjneeignjaaa
