/- Contract of the walk of mark.Parse: labels of a text, or none; no condition but that the text's length fits. -/
import Derived.Test.YtcjnjneeignjaaaMarkE
import Derived.Test.YtcjnjneeignjaaaLabP
import Derived.Deep.QuietTactic
import Derived.BigQuiet
import Derived.WalkSmall
namespace Go.Proofs.Ytcjnjneeignjaaa
open Go.RowKit
open Go.PlainAid (bt get_bt bt_nonneg bt_le)
set_option linter.unusedVariables false
theorem parse_stop (s : ByteArray) (k : Nat) (hm : (s.toList == [45]) = false) (hk : k < s.size) (h : ¬ Lab1 s k) : labNum s = 0 ∧ labOk s = false := by
  have h1 : ¬ LabTo s s.size := fun h2 => h (h2 k hk)
  rw [Go.ByteArray.toList_eq] at hm
  simp [labNum, labOk, hm, h1]
theorem lab_end (s : ByteArray) (hm : (s.data.toList == [45]) = false) (h : LabTo s s.size) : labOk s = !s.toList.isEmpty := by
  rw [Go.ByteArray.toList_eq]
  have e : (s.size != 0) = !s.data.toList.isEmpty := by
    have e : s.size = s.data.toList.length := rfl
    rw [e]
    cases s.data.toList <;> simp
  unfold labOk
  rw [hm, e, decide_eq_true h]
  simp
set_option maxHeartbeats 400000 in
theorem parse_any (s : ByteArray) (w : World) (hs : s.size ≤ maxLen) :
    Calls Try.prog 15 #[.string s] w fun e w' => e = .returned (.tuple #[.int .u32 (labNum s : Nat), .bool (labOk s)]) ∧ Below w.heap.size w w' := by
  unfold maxLen at hs
  have hb := get_bt s
  by_cases hm : (s.toList == [45]) = true
  · go_enter Try.func15, Try.ntmps15
    go_wp2
    go_ret2
    rw [Go.ByteArray.toList_eq] at hm
    exact ⟨ret_ib (by simp [labNum, hm]) (by simp [labOk, hm]), Below.refl _ _⟩
  · rw [Bool.not_eq_true] at hm
    go_enter Try.func15, Try.ntmps15
    go_wp2
    go_loopw [4, 10] (fun l i wr => ∃ k : Nat, k ≤ s.size ∧ i = .int .i64 k ∧ LabTo s k ∧ l = .int .u32 (labSum s k : Nat) ∧ Below w.heap.size w wr) (fun _ i _ => s.size - (intOf i).toNat)
    case atStart => exact ⟨0, Nat.zero_le _, rfl, fun i hi => absurd hi (by omega), rfl, Below.refl _ _⟩
    case round =>
      obtain ⟨k, hk, rfl, ha, rfl, hbel⟩ := hrel
      have HA := Lib.hid ha
      clear ha
      by_cases hlt : k < s.size
      · have hlt' : (k : Int) < (s.size : Int) := by omega
        have hk0 : (0 : Int) ≤ (k : Int) := by omega
        have hs1 := labSum_lt s k HA.out
        have hc0 := bt_nonneg s k
        have hc1 := bt_le s k
        by_cases h1 : bt s k < 97
        · have hd : decide (bt s k < 97) = true := by simpa using h1
          go_wp2
          go_quiet (fail)
          go_wp2
          go_ret2
          have := parse_stop s k hm hlt (by unfold Lab1; omega)
          exact ⟨ret_ib (by rw [this.1]; rfl) (by rw [this.2]), below_drewN hbel _⟩
        · have hd : decide (bt s k < 97) = false := by simpa using h1
          by_cases h2 : 122 < bt s k
          · have hd2 : decide (122 < bt s k) = true := by simpa using h2
            go_wp2
            go_quiet (fail)
            go_wp2
            go_ret2
            have := parse_stop s k hm hlt (by unfold Lab1; omega)
            exact ⟨ret_ib (by rw [this.1]; rfl) (by rw [this.2]), below_drewN hbel _⟩
          · have hd2 : decide (122 < bt s k) = false := by simpa using h2
            have hor := Lib.hid (lab_step s k hs1 (by omega) (by omega))
            by_cases h3 : k ≤ 0
            · have hd3 : decide (0 < k) = false := by simp; omega
              go_wp2
              go_quiet (fail)
              go_wp2
              go_roundw
              case rel => exact ⟨k + 1, by omega, by go_num, LabTo_succ s k HA.out (by unfold Lab1; omega), hor.out, below_drewN hbel _⟩
              case measure => simp [intOf]; omega
            · have hd3 : decide (0 < k) = true := by simp; omega
              have hd3' : 0 < k := by omega
              have hd3'' : (1 : Int) ≤ (k : Int) := by omega
              have k1 : (0 : Int) ≤ (k : Int) - 1 := by omega
              have k2 : (k : Int) - 1 < (s.size : Int) := by omega
              have k3 : IntKind.i64.wrap ((k : Int) - 1) = (k : Int) - 1 := IntWalk.i64_in _ (by omega)
              have k4 : ((k : Int) - 1).toNat = k - 1 := by omega
              by_cases h4 : bt s k ≤ bt s (k - 1)
              · have hd4 : decide (bt s k ≤ bt s (k - 1)) = true := by simpa using h4
                go_wp2
                go_quiet (fail)
                clear k3 k4
                go_wp2
                go_ret2
                have := parse_stop s k hm hlt (by unfold Lab1; omega)
                exact ⟨ret_ib (by rw [this.1]; rfl) (by rw [this.2]), below_drewN hbel _⟩
              · have hd4 : decide (bt s k ≤ bt s (k - 1)) = false := by simpa using h4
                go_wp2
                go_quiet (fail)
                clear k3 k4
                go_wp2
                go_roundw
                case rel => exact ⟨k + 1, by omega, by go_num, LabTo_succ s k HA.out (by unfold Lab1; omega), hor.out, below_drewN hbel _⟩
                case measure => simp [intOf]; omega
      · go_wp2
        obtain rfl : k = s.size := by omega
        go_ret2
        rw [Go.ByteArray.toList_eq] at hm
        refine ⟨ret_ib (by simp [labNum, hm, HA.out]) ?_, hbel⟩
        exact (lab_end s hm HA.out).symm
end Go.Proofs.Ytcjnjneeignjaaa
