/- Plain facts on the score's numbers by their bits: kinds, rows, texts. No program in sight. -/
import Derived.Test.YtflcbbohnkgokaaFloP
import Derived.Test.YtflcbbohnkgokaaHexP
namespace Go.Proofs.Ytflcbbohnkgokaa
theorem sgn_lt (b : Nat) (h : b < 18446744073709551616) : sgn b = decide (9223372036854775808 ≤ b) := by
  unfold sgn
  rw [Bool.eq_iff_iff]
  simp only [beq_iff_eq, decide_eq_true_eq]
  omega
theorem rung_lt (b : Nat) (h : b < 18446744073709551616) : rung b = if 9223372036854775808 ≤ b then b - 9223372036854775808 else b := by
  unfold rung
  split <;> omega
/-- what a number is: 0 none, 1 the least infinite one, 2 below nought, 3 and 4 the noughts, 5 above, 6 the greatest infinite one -/
def kindN (b : Nat) : Nat :=
  if nan b then 0 else if rung b = 9218868437227405312 then (if sgn b then 1 else 6) else if rung b = 0 then (if sgn b then 3 else 4) else if sgn b then 2 else 5
def rowN (b : Nat) : Nat := if nan b then 0 else if sgn b then 18446744073709551615 - b else b + 9223372036854775808
def cmpN (a b : Nat) : Int := if rowN a < rowN b then -1 else if rowN b < rowN a then 1 else 0
/-- the bits by which a number is told -/
def canon (b : Nat) : Nat := if nan b then 9221120237041090561 else b
theorem canon_lt (b : Nat) (h : b < 18446744073709551616) : canon b < 18446744073709551616 := by unfold canon; split <;> omega
/-- the seven kinds, each with what holds of the bits -/
theorem kind_cases (b : Nat) (h : b < 18446744073709551616) :
    (kindN b = 0 ∧ nan b = true ∧ (9218868437227405312 < b ∧ b < 9223372036854775808 ∨ 18442240474082181120 < b)) ∨
    (kindN b = 1 ∧ nan b = false ∧ b = 18442240474082181120) ∨
    (kindN b = 2 ∧ nan b = false ∧ 9223372036854775808 < b ∧ b < 18442240474082181120) ∨
    (kindN b = 3 ∧ nan b = false ∧ b = 9223372036854775808) ∨
    (kindN b = 4 ∧ nan b = false ∧ b = 0) ∨
    (kindN b = 5 ∧ nan b = false ∧ 0 < b ∧ b < 9218868437227405312) ∨
    (kindN b = 6 ∧ nan b = false ∧ b = 9218868437227405312) := by
  have hs := sgn_lt b h
  have hr := rung_lt b h
  unfold kindN nan
  rw [hs]
  by_cases h1 : 9223372036854775808 ≤ b
  · rw [if_pos h1] at hr
    rw [hr, decide_eq_true h1]
    by_cases h2 : 9218868437227405312 < b - 9223372036854775808
    · left; simp only [decide_eq_true h2]; exact ⟨if_pos trivial, trivial, .inr (by omega)⟩
    · simp only [decide_eq_false h2]
      by_cases h3 : b - 9223372036854775808 = 9218868437227405312
      · right; left; simp [h3]; omega
      · by_cases h4 : b - 9223372036854775808 = 0
        · right; right; right; left; simp [h4]; omega
        · right; right; left; simp [h3, h4]; omega
  · rw [if_neg h1] at hr
    rw [hr, decide_eq_false h1]
    by_cases h2 : 9218868437227405312 < b
    · left; simp only [decide_eq_true h2]; exact ⟨if_pos trivial, trivial, .inl (by omega)⟩
    · simp only [decide_eq_false h2]
      by_cases h3 : b = 9218868437227405312
      · right; right; right; right; right; right; simp [h3]
      · by_cases h4 : b = 0
        · right; right; right; right; left; simp [h4]
        · right; right; right; right; right; left; simp [h4]; omega
theorem rowN_eq (b : Nat) (h : b < 18446744073709551616) : rowN b = if nan b then 0 else if 9223372036854775808 ≤ b then 18446744073709551615 - b else b + 9223372036854775808 := by
  unfold rowN
  rw [sgn_lt b h]
  simp only [decide_eq_true_eq]
theorem key_eq (b : Nat) (h : b < 18446744073709551616) : key b = if 9223372036854775808 ≤ b then -((b : Int) - 9223372036854775808) else (b : Int) := by
  unfold key
  rw [sgn_lt b h, rung_lt b h]
  by_cases h1 : 9223372036854775808 ≤ b
  · simp only [h1, decide_true, if_true]; omega
  · simp only [h1, decide_false, if_false, Bool.false_eq_true]
end Go.Proofs.Ytflcbbohnkgokaa
