/- Plain facts on labels, their bits and their texts: no program in sight. -/
import Derived.WalkKit
import Derived.PlainAid
import Derived.Laws.ShiftsVar
namespace Go.Proofs.Ytcjnjneeignjaaa
open Go.RowKit
open Go.PlainAid (bt)
/-- may the byte at place i stand there? -/
def Lab1 (s : ByteArray) (i : Nat) : Prop := 97 ≤ bt s i ∧ bt s i ≤ 122 ∧ (i = 0 ∨ bt s (i - 1) < bt s i)
instance (s : ByteArray) (i : Nat) : Decidable (Lab1 s i) := by unfold Lab1; exact inferInstance
def LabTo (s : ByteArray) (k : Nat) : Prop := ∀ i, i < k → Lab1 s i
instance (s : ByteArray) (k : Nat) : Decidable (LabTo s k) := by unfold LabTo; exact inferInstance
/-- the bits of the first k letters -/
def labSum (s : ByteArray) : Nat → Nat
  | 0 => 0
  | k + 1 => labSum s k ||| 2 ^ (bt s k - 97).toNat
def labOk (s : ByteArray) : Bool := s.data.toList == [45] || (decide (LabTo s s.size) && s.size != 0)
def labNum (s : ByteArray) : Nat := if s.data.toList == [45] then 0 else if LabTo s s.size then labSum s s.size else 0
theorem LabTo_succ (s : ByteArray) (k : Nat) (h : LabTo s k) (h1 : Lab1 s k) : LabTo s (k + 1) := by
  intro i hi
  by_cases e : i = k
  · subst e; exact h1
  · exact h i (by omega)
theorem labSum_lt (s : ByteArray) (k : Nat) (h : LabTo s k) : labSum s k < 67108864 := by
  induction k with
  | zero => simp [labSum]
  | succ k ih =>
    have h1 := ih (fun i hi => h i (by omega))
    have h2 := h k (by omega)
    unfold Lab1 at h2
    have e : (67108864 : Nat) = 2 ^ 26 := by decide
    rw [labSum, e]
    rw [e] at h1
    exact Nat.or_lt_two_pow h1 (Nat.pow_lt_pow_right (by decide) (by omega))
theorem labSum_bit (s : ByteArray) (k j : Nat) (h : LabTo s k) : (labSum s k).testBit j = true ↔ ∃ i, i < k ∧ bt s i = 97 + j := by
  induction k with
  | zero => simp [labSum]
  | succ k ih =>
    have h2 := h k (by omega)
    unfold Lab1 at h2
    rw [labSum, Nat.testBit_or, Bool.or_eq_true, ih (fun i hi => h i (by omega)), Nat.testBit_two_pow]
    constructor
    · rintro (⟨i, hi, e⟩ | e)
      · exact ⟨i, by omega, e⟩
      · exact ⟨k, by omega, by simp at e; omega⟩
    · rintro ⟨i, hi, e⟩
      by_cases ek : i = k
      · subst ek; right; simp; omega
      · left; exact ⟨i, by omega, e⟩
theorem or_label (v : Nat) (c : Int) (hv : v < 67108864) (h1 : 97 ≤ c) (h2 : c ≤ 122) : bits .or .u32 (v : Int) (2 ^ (c - 97).toNat % 4294967296) = ((v ||| 2 ^ (c - 97).toNat : Nat) : Int) := by
  have e : ((2 : Int) ^ (c - 97).toNat) = ((2 ^ (c - 97).toNat : Nat) : Int) := by simp
  have hp : 2 ^ (c - 97).toNat < 2 ^ 26 := Nat.pow_lt_pow_right (by decide) (by omega)
  rw [e]
  generalize 2 ^ (c - 97).toNat = p at *
  rw [show ((p : Int) % 4294967296) = (p : Int) from by omega, u32_or _ _ (by omega) (by omega) (by omega) (by omega)]
  simp
theorem lab_step (s : ByteArray) (k : Nat) (hv : labSum s k < 67108864) (h1 : 97 ≤ bt s k) (h2 : bt s k ≤ 122) : Value.int .u32 (bits .or .u32 (labSum s k : Nat) (2 ^ (bt s k - 97).toNat % 4294967296)) = Value.int .u32 (labSum s (k + 1) : Nat) := by
  rw [or_label _ _ hv h1 h2]; rfl
end Go.Proofs.Ytcjnjneeignjaaa
