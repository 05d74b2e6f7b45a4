/- Plain facts on names, scopes and patterns as lists of bytes: no program in sight. -/
import Derived.WalkKit
import Derived.PlainAid
namespace Go.Proofs.Ytolmhigekkoikaa
open Go.RowKit
/-- the byte at a place; 0 behind the end -/
def by8 (l : List UInt8) (i : Nat) : Nat := (l.getD i 0).toNat
theorem by8_le (l : List UInt8) (i : Nat) : by8 l i ≤ 255 := by have := (l.getD i 0).toNat_lt; unfold by8; omega
theorem get_by8 (l : List UInt8) : ∀ (n : Nat) (h : n < (ByteArray.mk l.toArray).size), ((ByteArray.mk l.toArray)[n]'h).toNat = by8 l n := fun n h => by
  have h' : n < l.length := by simpa [ByteArray.size] using h
  unfold by8
  rw [ByteArray.getElem_eq_getElem_data]
  simp [List.getD, h']
theorem by8_mem (l : List UInt8) (i : Nat) (h : i < l.length) : by8 l i = (l[i]).toNat := by unfold by8; simp [List.getD, h]
def letC (c : Nat) : Bool := (decide (97 ≤ c) && decide (c ≤ 122)) || (decide (48 ≤ c) && decide (c ≤ 57)) || c == 45
def lettersB (l : List UInt8) : Bool := l.all fun c => letC c.toNat
/-- may a name begin so? -/
def frontL (l : List UInt8) : Bool := decide (l.length ≤ 20) && (l.isEmpty || (decide (97 ≤ by8 l 0) && decide (by8 l 0 ≤ 122))) && lettersB l
/-- a name without a scope -/
def plainL (l : List UInt8) : Bool := !l.isEmpty && frontL l && !(by8 l (l.length - 1) == 45)
/-- the place of the first stroke -/
def strokeL (l : List UInt8) : Nat := (l.takeWhile fun c => c != 47).length
theorem strokeL_le (l : List UInt8) : strokeL l ≤ l.length := by
  unfold strokeL
  exact List.Sublist.length_le (List.takeWhile_sublist _)
theorem stroke_before (l : List UInt8) (i : Nat) (h : i < strokeL l) : by8 l i ≠ 47 := by
  have hl := strokeL_le l
  rw [by8_mem l i (by omega)]
  intro e
  have h2 : (l.takeWhile fun c => c != 47)[i]'h ∈ l.takeWhile fun c => c != 47 := List.getElem_mem _
  have h3 := List.all_takeWhile (p := fun c : UInt8 => c != 47) (l := l)
  rw [List.all_eq_true] at h3
  have h4 := h3 _ h2
  have h5 : (l.takeWhile fun c => c != 47)[i]'h = l[i]'(by omega) := List.IsPrefix.getElem (List.takeWhile_prefix _) h
  rw [h5] at h4
  have h6 : l[i]'(by omega) = 47 := UInt8.toNat_inj.1 e
  rw [h6] at h4
  exact absurd h4 (by decide)
theorem stroke_at (l : List UInt8) (h : strokeL l < l.length) : by8 l (strokeL l) = 47 := by
  induction l with
  | nil => simp [strokeL] at h
  | cons c t ih =>
    unfold strokeL at *
    rw [List.takeWhile_cons] at *
    by_cases hc : (c != 47) = true
    · rw [if_pos hc] at *
      simp only [List.length_cons] at h ⊢
      have := ih (by omega)
      unfold by8 at *
      rw [List.getD_cons_succ]; exact this
    · rw [if_neg hc] at *
      have : c = 47 := by simpa using hc
      subst this
      rfl
theorem stroke_unique (l : List UInt8) (k : Nat) (h1 : ∀ i, i < k → by8 l i ≠ 47) (h2 : k ≤ l.length) (h3 : k < l.length → by8 l k = 47) : k = strokeL l := by
  have hl := strokeL_le l
  by_cases c1 : k < strokeL l
  · exact absurd (h3 (by omega)) (stroke_before l k c1)
  · by_cases c2 : strokeL l < k
    · exact absurd (stroke_at l (by omega)) (h1 _ c2)
    · omega
/-- has it a scope? -/
def hasScope (l : List UInt8) : Bool := decide (strokeL l < l.length) && by8 l 0 == 64
def scopeL (l : List UInt8) : List UInt8 := if hasScope l then (l.take (strokeL l)).drop 1 else []
def restL (l : List UInt8) : List UInt8 := if hasScope l then l.drop (strokeL l + 1) else l
def checkL (l : List UInt8) : Bool := if hasScope l then plainL (scopeL l) && plainL (restL l) else plainL l
def starL (l : List UInt8) : Bool := !l.isEmpty && by8 l (l.length - 1) == 42
def headL (l : List UInt8) : List UInt8 := l.take (l.length - 1)
def globHead (h : List UInt8) : Bool := if hasScope h then plainL (scopeL h) && frontL (restL h) else frontL h
def globL (l : List UInt8) : Bool := if starL l then globHead (headL l) else checkL l
def matchL (g l : List UInt8) : Bool := globL g && checkL l && (if starL g then decide (g.length - 1 ≤ l.length) && l.take (g.length - 1) == headL g else g == l)
def weightL (g : List UInt8) : Int := if globL g then (if starL g then 2 * ((g.length : Int) - 1) else 2 * (g.length : Int) + 1) else -1
theorem by8_cons_zero (c : UInt8) (t : List UInt8) : by8 (c :: t) 0 = c.toNat := rfl
theorem by8_cons_succ (c : UInt8) (t : List UInt8) (i : Nat) : by8 (c :: t) (i + 1) = by8 t i := rfl
/-- a text that begins with @ is no plain name -/
theorem plain_not_at (l : List UInt8) (h : by8 l 0 = 64) : frontL l = false ∨ l = [] := by
  cases l with
  | nil => exact .inr rfl
  | cons c t =>
    left
    unfold frontL
    rw [h]
    simp
theorem plain_false_at (l : List UInt8) (h : by8 l 0 = 64) : plainL l = false := by
  rcases plain_not_at l h with h | h
  · unfold plainL; rw [h]; simp
  · subst h; rfl
theorem lettersB_iff (l : List UInt8) : lettersB l = true ↔ ∀ i, i < l.length → letC (by8 l i) = true := by
  unfold lettersB
  rw [List.all_eq_true]
  constructor
  · intro h i hi
    rw [by8_mem l i hi]
    exact h _ (List.getElem_mem _)
  · intro h c hc
    obtain ⟨i, hi, rfl⟩ := List.getElem_of_mem hc
    rw [← by8_mem l i hi]
    exact h i hi
theorem front_long (l : List UInt8) (h : 20 < l.length) : frontL l = false := by unfold frontL; rw [decide_eq_false (by omega)]; rfl
theorem front_first (l : List UInt8) (h0 : 0 < l.length) (h : by8 l 0 < 97 ∨ 122 < by8 l 0) : frontL l = false := by
  unfold frontL
  have e : l.isEmpty = false := by cases l <;> simp at *
  rw [e]
  rcases h with h | h
  · rw [decide_eq_false (p := 97 ≤ by8 l 0) (by omega)]; simp
  · rw [decide_eq_false (p := by8 l 0 ≤ 122) (by omega)]; simp
theorem front_stop (l : List UInt8) (k : Nat) (hk : k < l.length) (h : letC (by8 l k) = false) : frontL l = false := by
  unfold frontL
  have : lettersB l = false := by
    rw [Bool.eq_false_iff]
    intro e
    have := (lettersB_iff l).1 e k hk
    rw [h] at this; cases this
  rw [this]; simp
theorem front_yes (l : List UInt8) (h1 : l.length ≤ 20) (h2 : l = [] ∨ (97 ≤ by8 l 0 ∧ by8 l 0 ≤ 122)) (h3 : ∀ i, i < l.length → letC (by8 l i) = true) : frontL l = true := by
  unfold frontL
  rw [decide_eq_true h1, (lettersB_iff l).2 h3]
  rcases h2 with rfl | ⟨a, b⟩
  · rfl
  · rw [decide_eq_true a, decide_eq_true b]; simp
theorem plain_of (l : List UInt8) (h0 : 0 < l.length) : plainL l = (frontL l && !(by8 l (l.length - 1) == 45)) := by
  have e : l.isEmpty = false := by cases l <;> simp at *
  unfold plainL; rw [e]; rfl
theorem ext_list (l : List UInt8) (a b : Nat) : (ByteArray.mk l.toArray).extract a b = ⟨((l.take b).drop a).toArray⟩ := by
  apply ByteArray.ext
  rw [ByteArray.data_extract]
  apply Array.toList_inj.1
  rw [Array.toList_extract, List.extract_eq_take_drop, List.drop_take]
theorem ext_all (l : List UInt8) (a : Nat) : (ByteArray.mk l.toArray).extract a l.length = ⟨(l.drop a).toArray⟩ := by
  rw [ext_list, List.take_length]
end Go.Proofs.Ytolmhigekkoikaa
