/- Plain facts on 64-bit floats by their bits: which word is no number, how two words stand to each other. No program in sight. -/
import Derived.WalkKit
import Derived.Laws.FloatBits
namespace Go.Proofs.Ytflcbbohnkgokaa
open Ieee
/-- the lower 63 bits -/
def rung (x : Nat) : Nat := x % 9223372036854775808
def sgn (x : Nat) : Bool := x / 9223372036854775808 % 2 == 1
/-- no number -/
def nan (x : Nat) : Bool := decide (9218868437227405312 < rung x)
/-- where a number stands: by its rung, with its sign -/
def key (x : Nat) : Int := if sgn x then -(rung x : Int) else (rung x : Int)
/-- the worth of a rung, in units of the least number -/
def worth (r : Nat) : Nat := if r < 4503599627370496 then r else (4503599627370496 + r % 4503599627370496) * 2 ^ (r / 4503599627370496 - 1)
theorem worth_succ (r : Nat) : worth r < worth (r + 1) := by
  unfold worth
  by_cases h1 : r + 1 < 4503599627370496
  · rw [if_pos (by omega), if_pos h1]; omega
  · by_cases h2 : r < 4503599627370496
    · have e : r = 4503599627370495 := by omega
      subst e
      decide
    · rw [if_neg h2, if_neg h1]
      by_cases h3 : r % 4503599627370496 = 4503599627370495
      · have e1 : (r + 1) % 4503599627370496 = 0 := by omega
        have e2 : (r + 1) / 4503599627370496 - 1 = (r / 4503599627370496 - 1) + 1 := by omega
        rw [h3, e1, e2, Nat.pow_succ]
        have : 0 < 2 ^ (r / 4503599627370496 - 1) := Nat.pow_pos (by decide)
        generalize 2 ^ (r / 4503599627370496 - 1) = p at *
        omega
      · have e1 : (r + 1) % 4503599627370496 = r % 4503599627370496 + 1 := by omega
        have e2 : (r + 1) / 4503599627370496 = r / 4503599627370496 := by omega
        rw [e1, e2]
        exact (Nat.mul_lt_mul_right (Nat.pow_pos (by decide))).2 (by omega)
theorem worth_mono {r s : Nat} (h : r < s) : worth r < worth s := by
  induction s with
  | zero => omega
  | succ s ih =>
    by_cases e : r = s
    · subst e; exact worth_succ r
    · exact Nat.lt_trans (ih (by omega)) (worth_succ s)
theorem worth_zero : worth 0 = 0 := by decide
def sworth (x : Nat) : Int := if sgn x then -(worth (rung x) : Int) else (worth (rung x) : Int)
theorem compare_sworth (x y : Nat) : compare (sworth x) (sworth y) = compare (key x) (key y) := by
  have h1 : ∀ a b, a < b → worth a < worth b := fun a b h => worth_mono h
  have m : worth (rung x) < worth (rung y) ↔ rung x < rung y := by
    constructor
    · intro h
      apply Classical.byContradiction
      intro hn
      by_cases e : rung x = rung y
      · rw [e] at h; omega
      · have := h1 (rung y) (rung x) (by omega); omega
    · exact h1 _ _
  have m2 : worth (rung y) < worth (rung x) ↔ rung y < rung x := by
    constructor
    · intro h
      apply Classical.byContradiction
      intro hn
      by_cases e : rung x = rung y
      · rw [e] at h; omega
      · have := h1 (rung x) (rung y) (by omega); omega
    · exact h1 _ _
  have z1 : worth (rung x) = 0 ↔ rung x = 0 := by
    constructor
    · intro h
      by_cases e : 0 < rung x
      · have := h1 0 _ e; rw [worth_zero] at this; omega
      · omega
    · intro h; rw [h]; exact worth_zero
  have z2 : worth (rung y) = 0 ↔ rung y = 0 := by
    constructor
    · intro h
      by_cases e : 0 < rung y
      · have := h1 0 _ e; rw [worth_zero] at this; omega
      · omega
    · intro h; rw [h]; exact worth_zero
  unfold sworth key
  generalize worth (rung x) = a at *
  generalize worth (rung y) = b at *
  simp only [compare, compareOfLessAndEq]
  cases sgn x <;> cases sgn y <;> simp only [Bool.false_eq_true, if_true, if_false] <;> (repeat' split) <;> first | rfl | omega
theorem compare_scale (a b : Int) (c : Nat) (h : 0 < c) : compare (a * c) (b * c) = compare a b := by
  have e1 : a * c < b * c ↔ a < b := Int.mul_lt_mul_right (by omega)
  have e2 : a * c = b * c ↔ a = b := Int.mul_eq_mul_right_iff (by omega)
  simp only [compare, compareOfLessAndEq, e1, e2]
theorem signed_scale (s : Bool) (m e c : Nat) : signed s m e * ((2 ^ c : Nat) : Int) = if s then -((m * 2 ^ (e + c) : Nat) : Int) else ((m * 2 ^ (e + c) : Nat) : Int) := by
  unfold signed
  rw [Nat.shiftLeft_eq, Nat.pow_add, ← Nat.mul_assoc]
  cases s
  · simp only [Bool.false_eq_true, if_false]; rw [← Int.natCast_mul]
  · simp only [if_true]; rw [Int.neg_mul, ← Int.natCast_mul]
theorem read_word (x : Nat) : double.read x =
    if rung x < 4503599627370496 then .number (sgn x) (rung x) (-1074)
    else if rung x < 9218868437227405312 then .number (sgn x) (4503599627370496 + rung x % 4503599627370496) (-1074 + (rung x / 4503599627370496 - 1 : Nat))
    else if rung x = 9218868437227405312 then .infinity (sgn x) else .nan (sgn x) (rung x - 9218868437227405312) := rfl
/-- a finite word, as mag * 2 ^ (place + 1074) -/
theorem read_finite (x : Nat) (h : rung x < 9218868437227405312) : ∃ m e : Nat, double.read x = .number (sgn x) m (-1074 + (e : Int)) ∧ m * 2 ^ e = worth (rung x) := by
  rw [read_word]
  by_cases h1 : rung x < 4503599627370496
  · rw [if_pos h1]
    exact ⟨rung x, 0, rfl, by unfold worth; rw [if_pos h1]; simp⟩
  · rw [if_neg h1, if_pos h]
    exact ⟨_, _, rfl, by unfold worth; rw [if_neg h1]⟩
theorem order_finite (x y : Nat) (hx : rung x < 9218868437227405312) (hy : rung y < 9218868437227405312) : double.order x y = some (compare (key x) (key y)) := by
  obtain ⟨m, e, h1, h2⟩ := read_finite x hx
  obtain ⟨n, g, h3, h4⟩ := read_finite y hy
  unfold Format.order
  rw [h1, h3, ← compare_sworth]
  show some (compare _ _) = _
  congr 1
  have e0 : min (-1074 + (e : Int)) (-1074 + (g : Int)) = -1074 + ((min e g : Nat) : Int) := by omega
  rw [e0]
  have e1 : (-1074 + (e : Int) - (-1074 + ((min e g : Nat) : Int))).toNat = e - min e g := by omega
  have e2 : (-1074 + (g : Int) - (-1074 + ((min e g : Nat) : Int))).toNat = g - min e g := by omega
  rw [e1, e2, ← compare_scale _ _ (2 ^ min e g) (Nat.pow_pos (by decide)), signed_scale, signed_scale]
  rw [show e - min e g + min e g = e from by omega, show g - min e g + min e g = g from by omega, h2, h4]
  rfl
theorem order_nan (x y : Nat) (h : nan x = true ∨ nan y = true) : double.order x y = none := by
  have hn : ∀ z, nan z = true → ∃ s t, double.read z = .nan s t := by
    intro z hz
    have hz := of_decide_eq_true hz
    rw [read_word, if_neg (by omega), if_neg (by omega), if_neg (by omega)]
    exact ⟨_, _, rfl⟩
  unfold Format.order
  rcases h with h | h
  · obtain ⟨s, t, e⟩ := hn x h
    rw [e]; cases double.read y <;> rfl
  · obtain ⟨s, t, e⟩ := hn y h
    rw [e]; cases double.read x <;> rfl
theorem read_inf (x : Nat) (h : rung x = 9218868437227405312) : double.read x = .infinity (sgn x) := by
  rw [read_word, if_neg (by omega), if_neg (by omega), if_pos h]
theorem order_key (x y : Nat) (hx : nan x = false) (hy : nan y = false) : double.order x y = some (compare (key x) (key y)) := by
  have hx := of_decide_eq_false hx
  have hy := of_decide_eq_false hy
  by_cases ix : rung x < 9218868437227405312
  · by_cases iy : rung y < 9218868437227405312
    · exact order_finite x y ix iy
    · obtain ⟨m, e, h1, _⟩ := read_finite x ix
      have h2 := read_inf y (by omega)
      unfold Format.order
      rw [h1, h2]
      show some (if sgn y then Ordering.gt else Ordering.lt) = _
      unfold key
      simp only [compare, compareOfLessAndEq]
      cases sgn x <;> cases sgn y <;> simp only [Bool.false_eq_true, if_true, if_false] <;> (repeat' split) <;> first | rfl | omega
  · have h1 := read_inf x (by omega)
    by_cases iy : rung y < 9218868437227405312
    · obtain ⟨m, e, h2, _⟩ := read_finite y iy
      unfold Format.order
      rw [h1, h2]
      show some (if sgn x then Ordering.lt else Ordering.gt) = _
      unfold key
      simp only [compare, compareOfLessAndEq]
      cases sgn x <;> cases sgn y <;> simp only [Bool.false_eq_true, if_true, if_false] <;> (repeat' split) <;> first | rfl | omega
    · have h2 := read_inf y (by omega)
      unfold Format.order
      rw [h1, h2]
      show some (compare (sgn y).toNat (sgn x).toNat) = _
      unfold key
      simp only [compare, compareOfLessAndEq]
      cases sgn x <;> cases sgn y <;> simp only [Bool.false_eq_true, if_true, if_false, Bool.toNat_true, Bool.toNat_false] <;> (repeat' split) <;> first | rfl | omega
end Go.Proofs.Ytflcbbohnkgokaa
