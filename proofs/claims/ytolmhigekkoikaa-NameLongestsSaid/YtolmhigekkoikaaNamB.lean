/- Contracts of the walks of name.Plain and of the references' Letters, Plain, Stroke, Split, Scoped: each returns what its plain Lean function says; no condition but that the text's length fits. -/
import Derived.Test.YtolmhigekkoikaaNamA
namespace Go.Proofs.Ytolmhigekkoikaa
open Go.RowKit
set_option linter.unusedVariables false
theorem letC_no (c : Nat) (h : letC c = false) : (c < 97 ∨ 122 < c) ∧ (c < 48 ∨ 57 < c) ∧ c ≠ 45 := by
  simp [letC] at h; omega
theorem letC_yes (c : Nat) (h : letC c = true) : (97 ≤ c ∧ c ≤ 122) ∨ (48 ≤ c ∧ c ≤ 57) ∨ c = 45 := by
  simp [letC] at h; omega
set_option maxHeartbeats 800000 in
theorem rletters_any (l : List UInt8) (w : World) (hl : l.length ≤ 9223372036854775807) :
    Calls Try.prog 27 #[.string ⟨l.toArray⟩] w fun e w' => e = .returned (.bool (frontL l)) ∧ w = w' := by
  have hgb := get_by8 l
  by_cases h : 20 < l.length
  · have hd : decide ((20 : Int) < (l.length : Int)) = true := by simp; omega
    have HF := Lib.hid (front_long l h)
    go_enter Try.func27, Try.ntmps27
    go_wp2_with fail
    go_ret
    exact ⟨ret_bool (by rw [HF.out]), rfl⟩
  · have hd : decide ((20 : Int) < (l.length : Int)) = false := by simp; omega
    by_cases h0 : l = []
    · subst h0
      have HF := Lib.hid (front_yes [] (by simp) (.inl rfl) (by simp))
      go_enter Try.func27, Try.ntmps27
      go_wp2_with fail
      refine wp_loop_rounds 1 ?_
      rw [rounds_succ]
      go_wp2_with fail
      go_ret
      exact ⟨ret_bool (by rw [HF.out]), rfl⟩
    · have hpos : 0 < l.length := by
        apply Nat.pos_of_ne_zero
        intro e; exact h0 (List.length_eq_zero_iff.1 e)
      have he : l.isEmpty = false := by
        cases l with
        | nil => exact absurd rfl h0
        | cons => rfl
      have hb8 := by8_le l 0
      by_cases h1 : by8 l 0 < 97
      · have HF := Lib.hid (front_first l hpos (.inl h1))
        have hd1 : decide ((by8 l 0 : Int) < 97) = true := by simp; omega
        go_enter Try.func27, Try.ntmps27
        go_wp2_with fail
        go_ret
        exact ⟨ret_bool (by rw [HF.out]), rfl⟩
      · have hd1 : decide ((by8 l 0 : Int) < 97) = false := by simp; omega
        by_cases h2 : 122 < by8 l 0
        · have HF := Lib.hid (front_first l hpos (.inr h2))
          have hd2 : decide ((122 : Int) < (by8 l 0 : Int)) = true := by simp; omega
          go_enter Try.func27, Try.ntmps27
          go_wp2_with fail
          go_ret
          exact ⟨ret_bool (by rw [HF.out]), rfl⟩
        · have hd2 : decide ((122 : Int) < (by8 l 0 : Int)) = false := by simp; omega
          have HY := Lib.hid (front_yes l (by omega) (.inr (by omega)))
          go_enter Try.func27, Try.ntmps27
          go_wp2_with fail
          go_loop [3] (fun i => ∃ k : Nat, k ≤ l.length ∧ i = .int .i64 k ∧ ∀ i, i < k → letC (by8 l i) = true) (fun i => l.length - (intOf i).toNat)
          case atStart => exact ⟨0, by omega, rfl, fun i hi => absurd hi (by omega)⟩
          case round =>
            obtain ⟨k, hk, rfl, hall⟩ := hrel
            have HA := Lib.hid hall
            clear hall
            by_cases hlt : k < l.length
            · have hk8 := by8_le l k
              cases hlc : letC (by8 l k)
              · have HF := Lib.hid (front_stop l k hlt hlc)
                have hn := letC_no _ hlc
                clear hlc
                go_wp2_with fail
                all_goals first | (go_ret; exact ⟨ret_bool (by rw [HF.out]), rfl⟩) | (exfalso; simp at *; omega)
              · have HL := Lib.hid hlc
                have hy := letC_yes _ hlc
                clear hlc
                go_wp2_with fail
                all_goals first | (go_round
                                   case rel => exact ⟨k + 1, by omega, by go_num, fun i hi => if e : i = k then e ▸ HL.out else HA.out i (by omega)⟩
                                   case measure => simp [intOf]; omega) | (exfalso; simp at *; omega)
            · obtain rfl : k = l.length := by omega
              have HF := Lib.hid (HY.out HA.out)
              go_wp2_with fail
              go_ret
              exact ⟨ret_bool (by rw [HF.out]), rfl⟩
end Go.Proofs.Ytolmhigekkoikaa
