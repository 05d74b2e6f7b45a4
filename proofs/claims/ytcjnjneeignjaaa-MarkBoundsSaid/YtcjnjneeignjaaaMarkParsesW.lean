/- The walk of MarkParses: for every text it returns true and changes nothing that was there. -/
import Derived.Test.YtcjnjneeignjaaaMarkL
import Derived.Test.YtcjnjneeignjaaaMarkUndersW
namespace Go.Proofs.Ytcjnjneeignjaaa
open Go.RowKit
set_option linter.unusedVariables false
theorem labNum_lt (s : ByteArray) : labNum s < 67108864 := by
  unfold labNum
  split
  · decide
  · split
    · rename_i h; exact labSum_lt s _ h
    · decide
theorem labNum_no (s : ByteArray) (h : labOk s = false) : labNum s = 0 := by
  unfold labOk at h
  simp only [Bool.or_eq_false_iff, Bool.and_eq_false_iff] at h
  unfold labNum
  rw [if_neg (by rw [h.1]; decide)]
  rcases h.2 with h2 | h2
  · rw [if_neg (of_decide_eq_false h2)]
  · have : s.size = 0 := by simpa using h2
    rw [this]
    split <;> rfl
theorem labText_labNum (s : ByteArray) (h : labOk s = true) : labText (labNum s) = s.data.toList := by
  unfold labOk at h
  by_cases hm : (s.data.toList == [45]) = true
  · unfold labNum labText
    rw [if_pos hm, if_pos (by decide)]
    exact (eq_of_beq hm).symm
  · rw [Bool.not_eq_true] at hm
    rw [hm, Bool.false_or, Bool.and_eq_true] at h
    have h1 := of_decide_eq_true h.1
    have e : labNum s = labSum s s.size := by unfold labNum; rw [if_neg (by rw [hm]; decide), if_pos h1]
    unfold labText
    rw [e, text_of_sum s h1, if_neg]
    intro h0
    have : s.size = 0 := by
      have : s.data.toList.length = 0 := by rw [h0]; rfl
      exact this
    rw [this] at h
    exact absurd h.2 (by decide)
theorem und_all (n : Nat) (h : n < 67108864) : undB n 67108863 = true := by
  refine decide_eq_true fun i hi hb => ?_
  have e : (67108863 : Nat) = 2 ^ 26 - 1 := rfl
  rw [e, Nat.testBit_two_pow_sub_one, decide_eq_true_eq]
  apply Classical.byContradiction
  intro h1
  rw [Nat.testBit_lt_two_pow (Nat.lt_of_lt_of_le h (show 2 ^ 26 ≤ 2 ^ i from Nat.pow_le_pow_right (by decide) (by omega)))] at hb
  cases hb
theorem parse_is (s : ByteArray) (n : Nat) (b : Bool) (w : World) (hs : s.size ≤ maxLen) (hn : Hid (labNum s = n)) (hb : Hid (labOk s = b)) :
    Calls Try.prog 15 #[.string s] w fun e w' => e = .returned (.tuple #[.int .u32 n, .bool b]) ∧ Below w.heap.size w w' := by
  have := parse_any s w hs
  rwa [hn.out, hb.out] at this
set_option maxHeartbeats 800000 in
theorem markParses_walk (a0 : ByteArray) (w0 : a0.size ≤ maxLen) (w : World) :
    Calls Try.prog 5 #[.string a0] w fun e w' => e = .returned (.bool true) ∧ Below w.heap.size w w' := by
  by_cases h : labOk a0 = true
  · have hlt := labNum_lt a0
    have HT := Lib.hid (labText_labNum a0 h)
    have HU := Lib.hid (und_all _ hlt)
    generalize hn : labNum a0 = n at *
    have HN := Lib.hid hn
    have HO := Lib.hid h
    clear hn h
    go_enter Try.func5, Try.ntmps5
    go_wp2_with fail
    refine (parse_is a0 n true _ w0 HN HO).mono ?_
    rintro e w1 ⟨rfl, hb1⟩
    go_wp2_with fail
    refine (rlabels_any a0 _ w0).mono ?_
    rintro e w2 ⟨hb2, ⟨h2, _⟩ | ⟨_, rfl, hs12, hc⟩⟩
    · rw [HO.out] at h2; cases h2
    rw [HN.out] at hc
    have HC := Lib.hid hc
    clear hc
    go_wp2_with fail
    refine (marked_any _).mono ?_
    rintro e w3 ⟨rfl, hb3⟩
    have hs2 := hb2.size
    have hc3 : ∀ j, j < 26 → w3.cell? ⟨w1.heap.size, j, none⟩ = some (bitVal n j) := fun j hj => by
      rw [hb3.cell (p := ⟨w1.heap.size, j, none⟩) hs12]
      exact HC.out j hj
    have HC3 := Lib.hid hc3
    clear hc3
    go_wp2_with fail
    refine (number_any w1.heap.size n hlt _ HC3.out).mono ?_
    rintro e w4 ⟨rfl, rfl⟩
    go_wp2_with fail
    refine (labelsText_any n _ (by omega)).mono ?_
    rintro e w4 ⟨rfl, hb4⟩
    rw [HT.out]
    go_wp2_with fail
    refine (check_any n _ (by omega)).mono ?_
    rintro e w5 ⟨rfl, rfl⟩
    rw [HU.out]
    go_wp2_with fail
    go_ret
    exact ⟨rfl, ((hb1.trans (hb2.mono hb1.size)).trans (hb3.mono (Nat.le_trans hb1.size hb2.size))).trans (hb4.mono (Nat.le_trans (Nat.le_trans hb1.size hb2.size) hb3.size))⟩
  · rw [Bool.not_eq_true] at h
    have HN := Lib.hid (labNum_no a0 h)
    have HO := Lib.hid h
    clear h
    go_enter Try.func5, Try.ntmps5
    go_wp2_with fail
    refine (parse_is a0 0 false _ w0 HN HO).mono ?_
    rintro e w1 ⟨rfl, hb1⟩
    go_wp2_with fail
    refine (rlabels_any a0 _ w0).mono ?_
    rintro e w2 ⟨hb2, ⟨_, v, rfl⟩ | ⟨h2, _⟩⟩
    · go_wp2_with fail
      refine (marked_any _).mono ?_
      rintro e w3 ⟨rfl, hb3⟩
      go_wp2_with fail
      go_ret
      exact ⟨rfl, (hb1.trans (hb2.mono hb1.size)).trans (hb3.mono (Nat.le_trans hb1.size hb2.size))⟩
    · rw [HO.out] at h2; cases h2
end Go.Proofs.Ytcjnjneeignjaaa
