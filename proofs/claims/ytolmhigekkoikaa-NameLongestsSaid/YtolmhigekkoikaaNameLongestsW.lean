/- The walk of NameLongests: for every text and slice of texts it returns true and changes nothing that was there. -/
import Derived.Test.YtolmhigekkoikaaNamL
import Derived.Test.YtolmhigekkoikaaSRow
namespace Go.Proofs.Ytolmhigekkoikaa
open Go.RowKit
set_option linter.unusedVariables false
set_option maxHeartbeats 1600000 in
theorem nameLongests_list (s : List UInt8) (a : Option Addr) (cap : Nat) (ls : List (List UInt8)) (w : World) (hs : s.length ≤ 9223372036854775807) (hr : ValRow w (.slice a ls.length cap) (strVals ls)) (hl : ∀ l ∈ ls, l.length ≤ maxLen) :
    Calls Try.prog 5 #[.string ⟨s.toArray⟩, .slice a ls.length cap] w fun e w' => e = .returned (.bool true) ∧ Below w.heap.size w w' := by
  have hmax := hr.len
  rw [strVals_length] at hmax
  unfold maxLen at hmax
  by_cases b1 : 100 < s.length
  · have hd : decide ((100 : Int) < (s.length : Int)) = true := by simp; omega
    clear hr hl
    go_enter Try.func5, Try.ntmps5
    go_wp2_with fail
    refine (named_any _).mono ?_
    rintro e w1 ⟨rfl, hb1⟩
    go_wp2_with fail
    go_ret
    exact ⟨rfl, hb1⟩
  · have hd1 : decide ((100 : Int) < (s.length : Int)) = false := by simp; omega
    by_cases b2 : 40 < ls.length
    · have hd2 : decide ((40 : Int) < (ls.length : Int)) = true := by simp; omega
      clear hr hl
      go_enter Try.func5, Try.ntmps5
      go_wp2_with fail
      refine (named_any _).mono ?_
      rintro e w1 ⟨rfl, hb1⟩
      go_wp2_with fail
      go_ret
      exact ⟨rfl, hb1⟩
    · have hd2 : decide ((40 : Int) < (ls.length : Int)) = false := by simp; omega
      have HR := Lib.hid hr
      have HL := Lib.hid hl
      clear hr hl
      go_enter Try.func5, Try.ntmps5
      go_wp2_with fail
      go_loop [5] (fun i => ∃ k : Nat, k ≤ ls.length ∧ i = .int .i64 k ∧ ∀ j, j < k → (ls.getD j []).length ≤ 100) (fun i => ls.length - (intOf i).toNat)
      case atStart => exact ⟨0, by omega, rfl, fun j hj => absurd hj (by omega)⟩
      case round =>
        obtain ⟨k, hk, rfl, hall⟩ := hrel
        have HA := Lib.hid hall
        clear hall
        by_cases hlt : k < ls.length
        · obtain ⟨b, off, rfl, hbw, hcell⟩ := valRow_cells HR.out k (by rw [strVals_length]; exact hlt)
          rw [strVals_length] at hcell
          have hc := hcell k hlt
          rw [strVals_at ls k hlt] at hc
          have hgl := getD_len ls k maxLen HL.out
          unfold maxLen at hgl
          clear hcell
          by_cases hbig : 100 < (ls.getD k []).length
          · generalize ls.getD k [] = g at *
            have hd3 : decide ((100 : Int) < (g.length : Int)) = true := by simp; omega
            go_wp2_with fail
            refine (named_any _).mono ?_
            rintro e w1 ⟨rfl, hb1⟩
            go_wp2_with fail
            go_ret
            exact ⟨rfl, hb1⟩
          · have HB := Lib.hid hbig
            have hd3 : decide ((100 : Int) < ((ls.getD k []).length : Int)) = false := decide_eq_false (by omega)
            clear hbig
            generalize hg : ls.getD k [] = g at *
            have HG := Lib.hid hg
            clear hg
            go_wp2_with fail
            go_round
            case rel => exact ⟨k + 1, by omega, by go_num, fun j hj => if e : j = k then by subst e; rw [HG.out]; have := HB.out; omega else HA.out j (by omega)⟩
            case measure => simp [intOf]; omega
        · obtain rfl : k = ls.length := by omega
          have hle : ∀ l ∈ ls, l.length ≤ 1000 := by
            intro l hl
            obtain ⟨i, hi, rfl⟩ := List.getElem_of_mem hl
            have := HA.out i hi
            simp [List.getD, hi] at this
            omega
          have HLE := Lib.hid hle
          clear hle
          go_wp2_with fail
          refine (named_any _).mono ?_
          rintro e w1 ⟨rfl, hb1⟩
          go_wp2_with fail
          refine (longest_any s _ ls _ (by omega) (HR.out.below hb1) HLE.out).mono ?_
          rintro e w2 ⟨rfl, hb2⟩
          go_wp2_with fail
          refine (rlongest_any s _ ls _ (by omega) (HR.out.below (bthen hb1 hb2)) HLE.out).mono ?_
          rintro e w3 ⟨rfl, hb3⟩
          go_wp2_with fail
          go_ret
          exact ⟨rfl, bthen (bthen hb1 hb2) hb3⟩
theorem nameLongests_walk (a0 : ByteArray) (w0 : a0.size ≤ maxLen) (a1 : Option Addr) (len1 cap1 : Nat) (z1 : List ByteArray) (w : World) (w1 : IsStrs w a1 len1 cap1 z1) :
    Calls Try.prog 5 #[.string a0, .slice a1 len1 cap1] w fun e w' => e = .returned (.bool true) ∧ Below w.heap.size w w' := by
  obtain ⟨ls, rfl, hr, hl⟩ := strs_row w1
  exact nameLongests_list a0.data.toList a1 cap1 ls w w0 hr hl
end Go.Proofs.Ytolmhigekkoikaa
