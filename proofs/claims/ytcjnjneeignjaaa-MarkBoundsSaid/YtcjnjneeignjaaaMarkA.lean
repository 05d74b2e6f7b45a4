/- Contracts of the walks of Labels.Under, Labels.Check, the reference's Under, and marked: each returns what its plain Lean function says; no condition but the arguments' own ranges. -/
import Derived.Test.YtcjnjneeignjaaaMarkP
namespace Go.Proofs.Ytcjnjneeignjaaa
open Go.RowKit
set_option linter.unusedVariables false
/-- are all bits of the first among those of the second? -/
def Und (a b : Nat) : Prop := ∀ i, i < 32 → a.testBit i = true → b.testBit i = true
instance (a b : Nat) : Decidable (Und a b) := by unfold Und; exact inferInstance
def undB (a b : Nat) : Bool := decide (Und a b)
theorem und_andNot (a b : Nat) (ha : a < 4294967296) (hb : b < 4294967296) : (bits .andNot .u32 (a : Int) (b : Int) == 0) = undB a b := by
  rw [u32_andNot_nat a b ha hb, Bool.eq_iff_iff]
  unfold undB
  simp only [beq_iff_eq, decide_eq_true_eq]
  have e : 4294967295 - b = 2 ^ 32 - (b + 1) := by omega
  rw [e]
  constructor
  · intro h i hi ht
    have h0 : a &&& (2 ^ 32 - (b + 1)) = 0 := by omega
    have := congrArg (fun x => x.testBit i) h0
    simp only [Nat.testBit_and, Nat.testBit_two_pow_sub_succ (x := b) (n := 32) (by omega), Nat.zero_testBit, ht] at this
    simpa [hi] using this
  · intro h
    have h0 : a &&& (2 ^ 32 - (b + 1)) = 0 := by
      apply Nat.eq_of_testBit_eq
      intro i
      simp only [Nat.testBit_and, Nat.testBit_two_pow_sub_succ (x := b) (n := 32) (by omega), Nat.zero_testBit]
      by_cases hi : i < 32
      · have := h i hi
        cases hb : b.testBit i
        · rw [hb] at this
          cases ha : a.testBit i
          · rfl
          · exact absurd (this ha) (by simp)
        · simp
      · simp [hi]
    rw [h0]; rfl
theorem bit_div (a k : Nat) : ((a : Int) / 2 ^ k).tmod 2 = if a.testBit k then 1 else 0 := by
  have e : ((a : Int) / 2 ^ k) = ((a / 2 ^ k : Nat) : Int) := by simp
  rw [e, Nat.testBit_eq_decide_div_mod_eq]
  generalize a / 2 ^ k = m
  rw [Int.tmod_eq_emod_of_nonneg (by omega)]
  by_cases h : m % 2 = 1
  · simp [h]; omega
  · simp [h]; omega
theorem under_any (a b : Nat) (w : World) (ha : a < 4294967296) (hb : b < 4294967296) :
    Calls Try.prog 9 #[.int .u32 a, .int .u32 b] w fun e w' => e = .returned (.bool (undB a b)) ∧ w = w' := by
  go_enter Try.func9, Try.ntmps9
  go_wp2
  go_ret
  exact ⟨ret_bool (und_andNot a b ha hb), rfl⟩
theorem runder_any (a b : Nat) (w : World) (ha : a < 4294967296) (hb : b < 4294967296) :
    Calls Try.prog 10 #[.int .u32 a, .int .u32 b] w fun e w' => e = .returned (.bool (undB a b)) ∧ w = w' := by
  go_enter Try.func10, Try.ntmps10
  go_wp2
  go_loop [5] (fun i => ∃ k : Nat, k ≤ 32 ∧ i = .int .i64 k ∧ ∀ i, i < k → a.testBit i = true → b.testBit i = true) (fun i => 32 - (intOf i).toNat)
  case atStart => exact ⟨0, Nat.zero_le _, rfl, fun i hi => absurd hi (by omega)⟩
  case round =>
    obtain ⟨k, hk, rfl, hall⟩ := hrel
    have HA := Lib.hid hall
    clear hall
    by_cases hlt : k < 32
    · have ba := bit_div a k
      have bb := bit_div b k
      cases ta : a.testBit k
      · rw [ta] at ba
        go_wp2
        go_round
        case rel => exact ⟨k + 1, by omega, by go_num, fun i hi h => if e : i = k then by subst e; rw [ta] at h; cases h else HA.out i (by omega) h⟩
        case measure => simp [intOf]; omega
      · rw [ta] at ba
        cases tb : b.testBit k
        · rw [tb] at bb
          go_wp2
          go_ret
          refine ⟨ret_bool ?_, rfl⟩
          unfold undB
          symm
          rw [decide_eq_false_iff_not]
          intro h
          have := h k hlt ta
          rw [tb] at this
          cases this
        · rw [tb] at bb
          go_wp2
          go_round
          case rel => exact ⟨k + 1, by omega, by go_num, fun i hi h => if e : i = k then by subst e; exact tb else HA.out i (by omega) h⟩
          case measure => simp [intOf]; omega
    · go_wp2
      go_ret
      obtain rfl : k = 32 := by omega
      refine ⟨ret_bool ?_, rfl⟩
      unfold undB
      exact (decide_eq_true HA.out).symm
theorem check_any (a : Nat) (w : World) (ha : a < 4294967296) :
    Calls Try.prog 19 #[.int .u32 a] w fun e w' => e = .returned (.bool (undB a 67108863)) ∧ w = w' := by
  go_enter Try.func19, Try.ntmps19
  go_wp2_with (go_at_call 9; refine (under_any a 67108863 _ ha (by decide)).mono ?_; rintro e w' ⟨rfl, rfl⟩)
  go_ret
  exact ⟨rfl, rfl⟩
def sAc : ByteArray := ⟨#[97, 99]⟩
def sCa : ByteArray := ⟨#[99, 97]⟩
def sFf : ByteArray := ⟨#[48, 48, 48, 48, 48, 48, 48, 48, 48, 48, 48, 48, 48, 48, 102, 102]⟩
theorem f_ac : labNum sAc = 5 ∧ labOk sAc = true := by decide +kernel
theorem f_ca : labNum sCa = 0 ∧ labOk sCa = false := by decide +kernel
theorem f_ff : hexNum sFf = 255 ∧ hexOk sFf = true := by decide +kernel
theorem f_57 : undB 5 7 = true := by decide +kernel
theorem f_hex : (hexOf 255) = sFf.data.toList := by decide +kernel
theorem marked_any (w : World) :
    Calls Try.prog 8 #[] w fun e w' => e = .returned (.bool true) ∧ Below w.heap.size w w' := by
  go_enter Try.func8, Try.ntmps8
  go_wp2_with fail
  refine (parse_any sAc _ (by decide)).mono ?_
  rintro e w1 ⟨rfl, hb1⟩
  rw [f_ac.1, f_ac.2]
  go_wp2_with fail
  refine (parse_any sCa _ (by decide)).mono ?_
  rintro e w2 ⟨rfl, hb2⟩
  rw [f_ca.1, f_ca.2]
  go_wp2_with fail
  refine (parseDigest_any sFf _).mono ?_
  rintro e w3 ⟨rfl, rfl⟩
  rw [f_ff.1, f_ff.2]
  go_wp2_with fail
  refine (under_any 5 7 _ (by decide) (by decide)).mono ?_
  rintro e w4 ⟨rfl, rfl⟩
  rw [f_57]
  go_wp2_with fail
  refine (digestText_any 255 _ (by decide)).mono ?_
  rintro e w5 ⟨rfl, hb5⟩
  rw [f_hex]
  go_wp2_with fail
  go_ret
  refine ⟨ret_bool ?_, ?_⟩
  · rw [Go.ByteArray.toList_eq]; rfl
  · exact (hb1.trans (hb2.mono hb1.size)).trans (hb5.mono (Nat.le_trans hb1.size hb2.size))
end Go.Proofs.Ytcjnjneeignjaaa
