/- The walk of MarkDigests: for every text and every 64-bit number it returns true and changes nothing that was there. -/
import Derived.Test.YtcjnjneeignjaaaMarkUndersW
namespace Go.Proofs.Ytcjnjneeignjaaa
open Go.RowKit
set_option linter.unusedVariables false
theorem toList_mk (l : List UInt8) : (ByteArray.mk l.toArray).toList = l := by rw [Go.ByteArray.toList_eq]
theorem parseDigest_yes (s : ByteArray) (w : World) (h : Hid (hexOk s = true)) :
    Calls Try.prog 11 #[.string s] w fun e w' => e = .returned (.tuple #[.int .u64 (hexNum s : Nat), .bool true]) ∧ w = w' := by
  have := parseDigest_any s w
  rwa [h.out] at this
theorem parseDigest_no (s : ByteArray) (w : World) (h : Hid (hexOk s = false)) :
    Calls Try.prog 11 #[.string s] w fun e w' => e = .returned (.tuple #[.int .u64 0, .bool false]) ∧ w = w' := by
  have := parseDigest_any s w
  have e : hexNum s = 0 := by unfold hexNum; rw [h.out]; rfl
  rwa [h.out, e] at this
theorem bits_yes (s : ByteArray) (w : World) (h : Hid (hexOk s = true)) :
    Calls Try.prog 12 #[.string s] w fun e w' => e = .returned (.tuple #[.int .u64 (hexNum s : Nat), .bool true]) ∧ w = w' := by
  have := bits_any s w
  rwa [h.out] at this
theorem bits_no (s : ByteArray) (w : World) (h : Hid (hexOk s = false)) :
    Calls Try.prog 12 #[.string s] w fun e w' => e = .returned (.tuple #[.int .u64 0, .bool false]) ∧ w = w' := by
  have := bits_any s w
  have e : hexNum s = 0 := by unfold hexNum; rw [h.out]; rfl
  rwa [h.out, e] at this
theorem hexNum_lt (s : ByteArray) : hexNum s < 18446744073709551616 := by
  unfold hexNum
  split
  · rename_i h
    simp only [hexOk, Bool.and_eq_true, beq_iff_eq] at h
    have := hexVal_lt _ h.2
    have e : s.data.toList.length = 16 := h.1
    rw [e] at this
    exact this
  · decide
set_option maxHeartbeats 800000 in
theorem markDigests_nat (s : ByteArray) (n : Nat) (hn : n < 18446744073709551616) (w : World) :
    Calls Try.prog 4 #[.string s, .int .u64 n] w fun e w' => e = .returned (.bool true) ∧ Below w.heap.size w w' := by
  have H1 : Hid (hexOk ⟨(hexOf n).toArray⟩ = true) := hexOk_hexOf n
  have H2 : Hid (hexNum ⟨(hexOf n).toArray⟩ = n) := hexNum_hexOf n hn
  by_cases h : hexOk s = true
  · have Hs := Lib.hid h
    have Ht : Hid (hexOf (hexNum s) = s.data.toList) := hexOf_hexNum s h
    clear h
    have hlt := hexNum_lt s
    generalize hm : hexNum s = m at hlt
    have Hm := Lib.hid hm
    clear hm
    rw [Hm.out] at Ht
    go_enter Try.func4, Try.ntmps4
    go_wp2_with fail
    refine (parseDigest_yes s _ Hs).mono ?_
    rintro e w2 ⟨rfl, rfl⟩
    rw [Hm.out]
    go_wp2_with fail
    refine (bits_yes s _ Hs).mono ?_
    rintro e w2 ⟨rfl, rfl⟩
    rw [Hm.out]
    go_wp2_with fail
    refine (marked_any _).mono ?_
    rintro e w1 ⟨rfl, hb1⟩
    go_wp2_with fail
    refine (digestText_any m _ hlt).mono ?_
    rintro e w2 ⟨rfl, hb2⟩
    rw [Ht.out]
    go_wp2_with fail
    refine (digestText_any n _ hn).mono ?_
    rintro e w3 ⟨rfl, hb3⟩
    go_wp2_with fail
    refine (parseDigest_yes _ _ H1).mono ?_
    rintro e w4 ⟨rfl, rfl⟩
    rw [H2.out]
    go_wp2_with fail
    refine (hex_any n _ hn).mono ?_
    rintro e w5 ⟨rfl, hb5⟩
    go_wp2_with fail
    go_ret
    exact ⟨rfl, ((hb1.trans (hb2.mono hb1.size)).trans (hb3.mono (Nat.le_trans hb1.size hb2.size))).trans (hb5.mono (Nat.le_trans (Nat.le_trans hb1.size hb2.size) hb3.size))⟩
  · rw [Bool.not_eq_true] at h
    have Hs := Lib.hid h
    clear h
    go_enter Try.func4, Try.ntmps4
    go_wp2_with fail
    refine (parseDigest_no s _ Hs).mono ?_
    rintro e w2 ⟨rfl, rfl⟩
    go_wp2_with fail
    refine (bits_no s _ Hs).mono ?_
    rintro e w2 ⟨rfl, rfl⟩
    go_wp2_with fail
    refine (marked_any _).mono ?_
    rintro e w1 ⟨rfl, hb1⟩
    go_wp2_with fail
    refine (digestText_any n _ hn).mono ?_
    rintro e w3 ⟨rfl, hb3⟩
    go_wp2_with fail
    refine (parseDigest_yes _ _ H1).mono ?_
    rintro e w4 ⟨rfl, rfl⟩
    rw [H2.out]
    go_wp2_with fail
    refine (hex_any n _ hn).mono ?_
    rintro e w5 ⟨rfl, hb5⟩
    go_wp2_with fail
    go_ret
    exact ⟨rfl, (hb1.trans (hb3.mono hb1.size)).trans (hb5.mono (Nat.le_trans hb1.size hb3.size))⟩
theorem markDigests_walk (a0 : ByteArray) (a1 : Int) (w0 : a0.size ≤ maxLen) (w1 : (Lit.int .u64 a1).wf = true) (w : World) :
    Calls Try.prog 4 #[.string a0, .int .u64 a1] w fun e w' => e = .returned (.bool true) ∧ Below w.heap.size w w' := by
  obtain ⟨n, rfl, hn⟩ := nat_of_u64 w1
  exact markDigests_nat a0 n hn w
end Go.Proofs.Ytcjnjneeignjaaa
