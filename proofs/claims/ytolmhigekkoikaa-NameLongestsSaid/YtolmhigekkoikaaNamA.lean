/- Contracts of the walks of name.letter, name.front, name.Plain and of the references' Letters, Plain, Stroke: each returns what its plain Lean function says; no condition but that the text's length fits. -/
import Derived.Test.YtolmhigekkoikaaRows
import Derived.Test.YtolmhigekkoikaaNamP
import Derived.WalkKit
import Derived.ProofKit
import Derived.Outline
import Derived.Below
import Derived.Handy
import Derived.PlainAid
import Derived.Lib.Hide
import Derived.WalkLawsBesides
import Derived.WalkSpells
import Derived.WalkSmall
import Derived.Deep.QuietTactic
import Derived.BigQuiet
namespace Go.Proofs.Ytolmhigekkoikaa
open Go.RowKit
set_option linter.unusedVariables false
theorem ret_int {k : IntKind} {a b : Int} (h : a = b) : Ending.returned (.int k a) = .returned (.int k b) := by rw [h]
theorem ret_bool {a b : Bool} (h : a = b) : Ending.returned (.bool a) = .returned (.bool b) := by rw [h]
theorem letter_any (c : Nat) (w : World) (hc : c ≤ 255) :
    Calls Try.prog 34 #[.int .u8 c] w fun e w' => e = .returned (.bool (letC c)) ∧ w = w' := by
  go_enter Try.func34, Try.ntmps34
  go_wp2
  all_goals go_ret
  all_goals (refine ⟨ret_bool ?_, rfl⟩)
  all_goals (rw [Bool.eq_iff_iff]; simp [letC]; omega)
theorem letter_is (c : Nat) (v : Bool) (w : World) (hc : c ≤ 255) (hv : Hid (letC c = v)) :
    Calls Try.prog 34 #[.int .u8 c] w fun e w' => e = .returned (.bool v) ∧ w = w' := by
  have := letter_any c w hc
  rwa [hv.out] at this
set_option maxHeartbeats 800000 in
theorem front_any (l : List UInt8) (w : World) (hl : l.length ≤ 9223372036854775807) :
    Calls Try.prog 26 #[.string ⟨l.toArray⟩] w fun e w' => e = .returned (.bool (frontL l)) ∧ w = w' := by
  have hgb := get_by8 l
  by_cases h : 20 < l.length
  · have hd : decide ((20 : Int) < (l.length : Int)) = true := by simp; omega
    have HF := Lib.hid (front_long l h)
    go_enter Try.func26, Try.ntmps26
    go_wp2_with fail
    go_ret
    exact ⟨ret_bool (by rw [HF.out]), rfl⟩
  · have hd : decide ((20 : Int) < (l.length : Int)) = false := by simp; omega
    by_cases h0 : l = []
    · subst h0
      have HF := Lib.hid (front_yes [] (by simp) (.inl rfl) (by simp))
      go_enter Try.func26, Try.ntmps26
      go_wp2_with fail
      refine wp_loop_rounds 1 ?_
      rw [rounds_succ]
      go_wp2_with fail
      go_ret
      exact ⟨ret_bool (by rw [HF.out]), rfl⟩
    · have hpos : 0 < l.length := by
        apply Nat.pos_of_ne_zero
        intro e; exact h0 (List.length_eq_zero_iff.1 e)
      have he : l.isEmpty = false := by
        cases l with
        | nil => exact absurd rfl h0
        | cons => rfl
      have hb8 := by8_le l 0
      by_cases h1 : by8 l 0 < 97
      · have HF := Lib.hid (front_first l hpos (.inl h1))
        have hd1 : decide ((by8 l 0 : Int) < 97) = true := by simp; omega
        go_enter Try.func26, Try.ntmps26
        go_wp2_with fail
        go_ret
        exact ⟨ret_bool (by rw [HF.out]), rfl⟩
      · have hd1 : decide ((by8 l 0 : Int) < 97) = false := by simp; omega
        by_cases h2 : 122 < by8 l 0
        · have HF := Lib.hid (front_first l hpos (.inr h2))
          have hd2 : decide ((122 : Int) < (by8 l 0 : Int)) = true := by simp; omega
          go_enter Try.func26, Try.ntmps26
          go_wp2_with fail
          go_ret
          exact ⟨ret_bool (by rw [HF.out]), rfl⟩
        · have hd2 : decide ((122 : Int) < (by8 l 0 : Int)) = false := by simp; omega
          have HY := Lib.hid (front_yes l (by omega) (.inr (by omega)))
          go_enter Try.func26, Try.ntmps26
          go_wp2_with fail
          go_loop [23] (fun i => ∃ k : Nat, k ≤ l.length ∧ i = .int .i64 k ∧ ∀ i, i < k → letC (by8 l i) = true) (fun i => l.length - (intOf i).toNat)
          case atStart => exact ⟨0, by omega, rfl, fun i hi => absurd hi (by omega)⟩
          case round =>
            obtain ⟨k, hk, rfl, hall⟩ := hrel
            have HA := Lib.hid hall
            clear hall
            by_cases hlt : k < l.length
            · have hk8 := by8_le l k
              cases hlc : letC (by8 l k)
              · have HF := Lib.hid (front_stop l k hlt hlc)
                have HL := Lib.hid hlc
                clear hlc
                go_wp2_with fail
                refine (letter_is (by8 l k) false _ hk8 HL).mono ?_
                rintro e w' ⟨rfl, rfl⟩
                go_wp2_with fail
                go_ret
                exact ⟨ret_bool (by rw [HF.out]), rfl⟩
              · have HL := Lib.hid hlc
                clear hlc
                go_wp2_with fail
                refine (letter_is (by8 l k) true _ hk8 HL).mono ?_
                rintro e w' ⟨rfl, rfl⟩
                go_wp2_with fail
                go_round
                case rel => exact ⟨k + 1, by omega, by go_num, fun i hi => if e : i = k then e ▸ HL.out else HA.out i (by omega)⟩
                case measure => simp [intOf]; omega
            · obtain rfl : k = l.length := by omega
              have HF := Lib.hid (HY.out HA.out)
              go_wp2_with fail
              go_ret
              exact ⟨ret_bool (by rw [HF.out]), rfl⟩
end Go.Proofs.Ytolmhigekkoikaa
