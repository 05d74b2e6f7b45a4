/- The walk of MarkTexts: for every 32-bit number it returns true and changes nothing that was there. -/
import Derived.Test.YtcjnjneeignjaaaMarkC
namespace Go.Proofs.Ytcjnjneeignjaaa
open Go.RowKit
set_option linter.unusedVariables false
theorem bthen {a b c : World} (h : Below a.heap.size a b) (k : Below b.heap.size b c) : Below a.heap.size a c := h.trans (k.mono h.size)
theorem labText_dash (n : Nat) : (labText n == [45]) = decide (letters n 26 = []) := by
  unfold labText
  by_cases h : letters n 26 = []
  · rw [if_pos h, decide_eq_true h]; rfl
  · rw [if_neg h, decide_eq_false h, beq_eq_false_iff_ne]; exact letters_ne n
set_option maxHeartbeats 800000 in
theorem markTexts_nat (n : Nat) (hn : n < 4294967296) (w : World) :
    Calls Try.prog 7 #[.int .u32 n] w fun e w' => e = .returned (.bool true) ∧ Below w.heap.size w w' := by
  obtain ⟨x, HU, hx⟩ : ∃ x : Bool, Hid (undB n 67108863 = x) ∧ decide ((n : Int) < 67108864) = x := ⟨decide (n < 67108864), und_lt n hn, by simp; omega⟩
  obtain ⟨m, hm, HM⟩ : ∃ m : Nat, (n : Int).tmod 67108864 = m ∧ Hid (n % 67108864 = m) := ⟨n % 67108864, by rw [Int.tmod_eq_emod_of_nonneg (by omega)]; omega, rfl⟩
  have HP := Lib.hid (labStr_parses n)
  have HD := Lib.hid (labText_dash n)
  have hlen := letters_length n 26
  have hpop := letters_pop n 26
  by_cases h0 : letters n 26 = []
  · have HT : Hid (labText n = [45]) := by unfold labText; rw [if_pos h0]; rfl
    have HL : Hid (pop n 26 = 0) := by rw [h0] at hpop; exact hpop.symm
    have HZ : Hid ((ByteArray.mk [45].toArray).size ≤ maxLen) := Lib.hid (by decide)
    have HO : Hid (labOk ⟨[45].toArray⟩ = true) := by have := HP.out.1; unfold labStr at this; rw [HT.out] at this; exact this
    have HN : Hid (labNum ⟨[45].toArray⟩ = m) := by have := HP.out.2; unfold labStr at this; rw [HT.out, HM.out] at this; exact this
    clear hpop hlen h0
    go_enter Try.func7, Try.ntmps7
    go_wp2_with fail
    refine (rtext_any n _ hn).mono ?_
    rintro e w1 ⟨rfl, hb1⟩
    rw [HT.out]
    go_wp2_with fail
    refine (marked_any _).mono ?_
    rintro e w2 ⟨rfl, hb2⟩
    go_wp2_with fail
    refine (labelsText_any n _ hn).mono ?_
    rintro e w3 ⟨rfl, hb3⟩
    rw [HT.out]
    go_wp2_with fail
    refine (count_any n _ hn).mono ?_
    rintro e w4 ⟨rfl, hb4⟩
    rw [HL.out]
    go_wp2_with fail
    refine (check_any n _ hn).mono ?_
    rintro e w5 ⟨rfl, rfl⟩
    rw [HU.out]
    go_wp2_with fail
    refine (parse_is _ _ true _ HZ.out HN HO).mono ?_
    rintro e w6 ⟨rfl, hb6⟩
    go_wp2_with fail
    go_ret
    exact ⟨rfl, bthen (bthen (bthen (bthen hb1 hb2) hb3) hb4) hb6⟩
  · have HT : Hid (labText n = letters n 26) := by unfold labText; rw [if_neg h0]; rfl
    have hd : (letters n 26 == [45]) = false := by have := HD.out; rwa [HT.out, decide_eq_false h0] at this
    have HL : Hid (pop n 26 = (letters n 26).length) := hpop.symm
    have HO : Hid (labOk ⟨(letters n 26).toArray⟩ = true) := by have := HP.out.1; unfold labStr at this; rw [HT.out] at this; exact this
    have HN : Hid (labNum ⟨(letters n 26).toArray⟩ = m) := by have := HP.out.2; unfold labStr at this; rw [HT.out, HM.out] at this; exact this
    have HZ : Hid ((ByteArray.mk (letters n 26).toArray).size ≤ maxLen) := by
      show (letters n 26).toArray.size ≤ maxLen
      rw [List.size_toArray]; unfold maxLen; omega
    clear hpop h0
    go_enter Try.func7, Try.ntmps7
    go_wp2_with fail
    refine (rtext_any n _ hn).mono ?_
    rintro e w1 ⟨rfl, hb1⟩
    rw [HT.out]
    go_wp2_with fail
    refine (marked_any _).mono ?_
    rintro e w2 ⟨rfl, hb2⟩
    go_wp2_with fail
    refine (labelsText_any n _ hn).mono ?_
    rintro e w3 ⟨rfl, hb3⟩
    rw [HT.out]
    go_wp2_with fail
    refine (count_any n _ hn).mono ?_
    rintro e w4 ⟨rfl, hb4⟩
    rw [HL.out]
    go_wp2_with fail
    refine (check_any n _ hn).mono ?_
    rintro e w5 ⟨rfl, rfl⟩
    rw [HU.out]
    go_wp2_with fail
    refine (parse_is _ _ true _ HZ.out HN HO).mono ?_
    rintro e w6 ⟨rfl, hb6⟩
    go_wp2_with fail
    go_ret
    exact ⟨rfl, bthen (bthen (bthen (bthen hb1 hb2) hb3) hb4) hb6⟩
theorem markTexts_walk (a0 : Int) (w0 : (Lit.int .u32 a0).wf = true) (w : World) :
    Calls Try.prog 7 #[.int .u32 a0] w fun e w' => e = .returned (.bool true) ∧ Below w.heap.size w w' := by
  obtain ⟨a, rfl, ha⟩ := nat_of_u32 w0
  exact markTexts_nat a ha w
end Go.Proofs.Ytcjnjneeignjaaa
