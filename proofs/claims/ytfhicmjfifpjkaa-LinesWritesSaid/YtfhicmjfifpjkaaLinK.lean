/- Words: the reference's Word. -/
import Derived.Test.YtfhicmjfifpjkaaLinI
import Derived.Test.YtfhicmjfifpjkaaLinQ
namespace Go.Proofs.Ytfhicmjfifpjkaa
open Go.RowKit
set_option linter.unusedVariables false
set_option maxHeartbeats 800000 in
theorem word_any (l : List UInt8) (w : World) (hl : l.length ≤ 9223372036854775807) :
    Calls Try.prog 10 #[.string ⟨l.toArray⟩] w fun e w' => e = .returned (.bool (wordL l)) ∧ w = w' := by
  have hgb := get_by8 l
  by_cases h0 : l = []
  · subst h0
    have HF : Hid (wordL [] = false) := Lib.hid rfl
    go_enter Try.func10, Try.ntmps10
    go_wp2_with fail
    go_ret
    exact ⟨ret_bool (by rw [HF.out]), rfl⟩
  · obtain ⟨he, hpos⟩ := list_ne h0
    by_cases h : 80 < l.length
    · have hd : decide ((80 : Int) < (l.length : Int)) = true := by simp; omega
      have HF : Hid (wordL l = false) := Lib.hid (word_false (fun hx => by have := hx.2.1; omega))
      clear h0
      go_enter Try.func10, Try.ntmps10
      go_wp2_with fail
      go_ret
      exact ⟨ret_bool (by rw [HF.out]), rfl⟩
    · have hd : decide ((80 : Int) < (l.length : Int)) = false := by simp; omega
      have HNE := Lib.hid h0
      clear h0
      go_enter Try.func10, Try.ntmps10
      go_wp2_with fail
      go_loop [3] (fun i => ∃ k : Nat, k ≤ l.length ∧ i = .int .i64 k ∧ ∀ i, i < k → wordC (by8 l i) = true) (fun i => l.length - (intOf i).toNat)
      case atStart => exact ⟨0, by omega, rfl, fun i hi => absurd hi (by omega)⟩
      case round =>
        obtain ⟨k, hk, rfl, hall⟩ := hrel
        have HA := Lib.hid hall
        clear hall
        have hk8 := by8_le l k
        by_cases hlt : k < l.length
        · have k0 : (0 : Int) ≤ (k : Int) := by omega
          have k1 : (k : Int) < (l.length : Int) := by omega
          cases hlc : wordC (by8 l k)
          · have HF : Hid (wordL l = false) := Lib.hid (word_false (fun hx => by have := hx.2.2 k hlt; rw [hlc] at this; cases this))
            have hn := wordC_no hlc
            clear hlc
            by_cases h33 : by8 l k < 33
            · have hd1 : decide ((by8 l k : Int) < 33) = true := decide_eq_true (by omega)
              clear hn
              go_wp2_with fail
              go_ret
              exact ⟨ret_bool (by rw [HF.out]), rfl⟩
            · have hd1 : decide ((by8 l k : Int) < 33) = false := decide_eq_false (by omega)
              by_cases h126 : 126 < by8 l k
              · have hd2 : decide ((126 : Int) < (by8 l k : Int)) = true := decide_eq_true (by omega)
                clear hn
                go_wp2_with fail
                go_ret
                exact ⟨ret_bool (by rw [HF.out]), rfl⟩
              · have hd2 : decide ((126 : Int) < (by8 l k : Int)) = false := decide_eq_false (by omega)
                have h35 : by8 l k = 35 := by omega
                have hd3 : ((by8 l k : Int) == 35) = true := ieq_t h35
                clear h35
                clear hn
                go_wp2_with fail
                go_ret
                exact ⟨ret_bool (by rw [HF.out]), rfl⟩
          · have HL := Lib.hid hlc
            obtain ⟨y1, y2, y3⟩ := wordC_yes hlc
            have hd1 : decide ((by8 l k : Int) < 33) = false := decide_eq_false (by omega)
            have hd2 : decide ((126 : Int) < (by8 l k : Int)) = false := decide_eq_false (by omega)
            have hd3 : ((by8 l k : Int) == 35) = false := ieq_f y3
            clear hlc y3
            go_wp2_with fail
            go_round
            case rel => exact ⟨k + 1, by omega, by go_num, fun i hi => if e : i = k then e ▸ HL.out else HA.out i (by omega)⟩
            case measure => simp [intOf]; omega
        · obtain rfl : k = l.length := by omega
          have HF : Hid (wordL l = true) := Lib.hid ((wordL_iff l).2 ⟨HNE.out, by omega, HA.out⟩)
          go_wp2_with fail
          go_ret
          exact ⟨ret_bool (by rw [HF.out]), rfl⟩
theorem word_is (l : List UInt8) (v : Bool) (w : World) (hl : l.length ≤ 9223372036854775807) (hv : Hid (wordL l = v)) :
    Calls Try.prog 10 #[.string ⟨l.toArray⟩] w fun e w' => e = .returned (.bool v) ∧ w = w' := by
  have := word_any l w hl
  rwa [hv.out] at this
end Go.Proofs.Ytfhicmjfifpjkaa
