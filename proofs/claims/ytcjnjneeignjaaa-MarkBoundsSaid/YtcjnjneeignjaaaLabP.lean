/- Plain facts on labels, their bits and their texts: no program in sight. -/
import Derived.WalkKit
import Derived.PlainAid
import Derived.Laws.ShiftsVar
namespace Go.Proofs.Ytcjnjneeignjaaa
open Go.RowKit
open Go.PlainAid (bt)
/-- may the byte at place i stand there? -/
def Lab1 (s : ByteArray) (i : Nat) : Prop := 97 ≤ bt s i ∧ bt s i ≤ 122 ∧ (i = 0 ∨ bt s (i - 1) < bt s i)
instance (s : ByteArray) (i : Nat) : Decidable (Lab1 s i) := by unfold Lab1; exact inferInstance
def LabTo (s : ByteArray) (k : Nat) : Prop := ∀ i, i < k → Lab1 s i
instance (s : ByteArray) (k : Nat) : Decidable (LabTo s k) := by unfold LabTo; exact inferInstance
/-- the bits of the first k letters -/
def labSum (s : ByteArray) : Nat → Nat
  | 0 => 0
  | k + 1 => labSum s k ||| 2 ^ (bt s k - 97).toNat
def labOk (s : ByteArray) : Bool := s.data.toList == [45] || (decide (LabTo s s.size) && s.size != 0)
def labNum (s : ByteArray) : Nat := if s.data.toList == [45] then 0 else if LabTo s s.size then labSum s s.size else 0
theorem LabTo_succ (s : ByteArray) (k : Nat) (h : LabTo s k) (h1 : Lab1 s k) : LabTo s (k + 1) := by
  intro i hi
  by_cases e : i = k
  · subst e; exact h1
  · exact h i (by omega)
theorem labSum_lt (s : ByteArray) (k : Nat) (h : LabTo s k) : labSum s k < 67108864 := by
  induction k with
  | zero => simp [labSum]
  | succ k ih =>
    have h1 := ih (fun i hi => h i (by omega))
    have h2 := h k (by omega)
    unfold Lab1 at h2
    have e : (67108864 : Nat) = 2 ^ 26 := by decide
    rw [labSum, e]
    rw [e] at h1
    exact Nat.or_lt_two_pow h1 (Nat.pow_lt_pow_right (by decide) (by omega))
theorem labSum_bit (s : ByteArray) (k j : Nat) (h : LabTo s k) : (labSum s k).testBit j = true ↔ ∃ i, i < k ∧ bt s i = 97 + j := by
  induction k with
  | zero => simp [labSum]
  | succ k ih =>
    have h2 := h k (by omega)
    unfold Lab1 at h2
    rw [labSum, Nat.testBit_or, Bool.or_eq_true, ih (fun i hi => h i (by omega)), Nat.testBit_two_pow]
    constructor
    · rintro (⟨i, hi, e⟩ | e)
      · exact ⟨i, by omega, e⟩
      · exact ⟨k, by omega, by simp at e; omega⟩
    · rintro ⟨i, hi, e⟩
      by_cases ek : i = k
      · subst ek; right; simp; omega
      · left; exact ⟨i, by omega, e⟩
theorem or_label (v : Nat) (c : Int) (hv : v < 67108864) (h1 : 97 ≤ c) (h2 : c ≤ 122) : bits .or .u32 (v : Int) (2 ^ (c - 97).toNat % 4294967296) = ((v ||| 2 ^ (c - 97).toNat : Nat) : Int) := by
  have e : ((2 : Int) ^ (c - 97).toNat) = ((2 ^ (c - 97).toNat : Nat) : Int) := by simp
  have hp : 2 ^ (c - 97).toNat < 2 ^ 26 := Nat.pow_lt_pow_right (by decide) (by omega)
  rw [e]
  generalize 2 ^ (c - 97).toNat = p at *
  rw [show ((p : Int) % 4294967296) = (p : Int) from by omega, u32_or _ _ (by omega) (by omega) (by omega) (by omega)]
  simp
theorem lab_step (s : ByteArray) (k : Nat) (hv : labSum s k < 67108864) (h1 : 97 ≤ bt s k) (h2 : bt s k ≤ 122) : Value.int .u32 (bits .or .u32 (labSum s k : Nat) (2 ^ (bt s k - 97).toNat % 4294967296)) = Value.int .u32 (labSum s (k + 1) : Nat) := by
  rw [or_label _ _ hv h1 h2]; rfl
theorem sorted_ext : ∀ (l r : List Nat), l.Pairwise (· < ·) → r.Pairwise (· < ·) → (∀ x, x ∈ l ↔ x ∈ r) → l = r
  | [], [], _, _, _ => rfl
  | [], b :: r, _, _, h => absurd ((h b).2 (by simp)) (by simp)
  | a :: l, [], _, _, h => absurd ((h a).1 (by simp)) (by simp)
  | a :: l, b :: r, hl, hr, h => by
    rw [List.pairwise_cons] at hl hr
    have e : a = b := by
      have h1 := (h a).1 (by simp)
      have h2 := (h b).2 (by simp)
      rw [List.mem_cons] at h1 h2
      rcases h1 with h1 | h1
      · exact h1
      · rcases h2 with h2 | h2
        · exact h2.symm
        · have := hl.1 b h2
          have := hr.1 a h1
          omega
    subst e
    rw [sorted_ext l r hl.2 hr.2]
    intro x
    have hx := h x
    rw [List.mem_cons, List.mem_cons] at hx
    constructor
    · intro hm
      rcases hx.1 (.inr hm) with e | e
      · subst e; exact absurd (hl.1 x hm) (by omega)
      · exact e
    · intro hm
      rcases hx.2 (.inr hm) with e | e
      · subst e; exact absurd (hr.1 x hm) (by omega)
      · exact e
/-- the letters of the bits below k -/
def lettersN (n k : Nat) : List Nat := ((List.range k).filter fun j => n.testBit j).map fun j => 97 + j
def letters (n k : Nat) : List UInt8 := (lettersN n k).map UInt8.ofNat
def labText (n : Nat) : List UInt8 := if letters n 26 = [] then [45] else letters n 26
theorem lettersN_sorted (n k : Nat) : (lettersN n k).Pairwise (· < ·) := by
  unfold lettersN
  rw [List.pairwise_map]
  refine List.Pairwise.imp ?_ (List.Pairwise.filter _ List.pairwise_lt_range)
  intro a b h; omega
theorem mem_lettersN (n k x : Nat) : x ∈ lettersN n k ↔ ∃ j, j < k ∧ n.testBit j = true ∧ x = 97 + j := by
  unfold lettersN
  simp only [List.mem_map, List.mem_filter, List.mem_range]
  constructor
  · rintro ⟨j, ⟨h1, h2⟩, h3⟩; exact ⟨j, h1, h2, h3.symm⟩
  · rintro ⟨j, h1, h2, h3⟩; exact ⟨j, ⟨h1, h2⟩, h3.symm⟩
theorem letters_succ (n k : Nat) : letters n (k + 1) = if n.testBit k then letters n k ++ [UInt8.ofNat (97 + k)] else letters n k := by
  unfold letters lettersN
  rw [List.range_succ, List.filter_append]
  by_cases h : n.testBit k = true
  · simp [h]
  · simp [h]
theorem letters_length (n k : Nat) : (letters n k).length ≤ k := by
  induction k with
  | zero => simp [letters, lettersN]
  | succ k ih =>
    rw [letters_succ]
    split
    · rw [List.length_append, List.length_singleton]; omega
    · omega
theorem bt_toNat (s : ByteArray) (i : Nat) (h : i < s.size) : (bt s i).toNat = (s.data.toList.map (·.toNat))[i]'(by rw [List.length_map]; exact h) := by
  unfold bt
  rw [dif_pos h]
  simp [ByteArray.getElem_eq_getElem_data]
theorem lab_chain (s : ByteArray) (k : Nat) (h : LabTo s k) (i j : Nat) (hij : i < j) (hj : j < k) : bt s i < bt s j := by
  induction j with
  | zero => omega
  | succ j ih =>
    have h1 := (h (j + 1) hj).2.2
    rcases h1 with h1 | h1
    · omega
    · rw [Nat.add_sub_cancel] at h1
      by_cases e : i = j
      · subst e; exact h1
      · have := ih (by omega) (by omega)
        omega
theorem text_of_sum (s : ByteArray) (h : LabTo s s.size) : letters (labSum s s.size) 26 = s.data.toList := by
  have hN : lettersN (labSum s s.size) 26 = s.data.toList.map (·.toNat) := by
    apply sorted_ext _ _ (lettersN_sorted _ _)
    · rw [List.pairwise_iff_getElem]
      intro i j hi hj hij
      have hi' : i < s.size := by rw [List.length_map] at hi; exact hi
      have hj' : j < s.size := by rw [List.length_map] at hj; exact hj
      have := lab_chain s s.size h i j hij hj'
      rw [← bt_toNat s i hi', ← bt_toNat s j hj']
      have := (h i hi').1
      omega
    · intro x
      rw [mem_lettersN]
      constructor
      · rintro ⟨j, hj, hb, rfl⟩
        obtain ⟨i, hi, e⟩ := (labSum_bit s s.size j h).1 hb
        have := bt_toNat s i hi
        rw [e] at this
        rw [show 97 + j = (97 + (j : Int)).toNat from by omega, this]
        exact List.getElem_mem _
      · intro hm
        obtain ⟨i, hi, rfl⟩ := List.getElem_of_mem hm
        have hi' : i < s.size := by rw [List.length_map] at hi; exact hi
        have hl := h i hi'
        unfold Lab1 at hl
        rw [← bt_toNat s i hi']
        refine ⟨((bt s i).toNat - 97), by omega, (labSum_bit s s.size _ h).2 ⟨i, hi', by omega⟩, by omega⟩
  unfold letters
  rw [hN, List.map_map]
  have : (UInt8.ofNat ∘ fun x : UInt8 => x.toNat) = id := by funext x; simp
  rw [this, List.map_id]
end Go.Proofs.Ytcjnjneeignjaaa
