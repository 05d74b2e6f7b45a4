/- The plain laws of a heap: what moving up and moving down keep and bring. No program in sight. -/
import Derived.Test.YtfhbndfdlnbfpaaOrdC
namespace Go.Proofs.Ytfhbndfdlnbfpaa
set_option linter.unusedVariables false
/-- does variable a go out ahead of b? -/
def ahd (sc : List Int) (a b : Nat) : Prop := sc.getD b 0 < sc.getD a 0 ∨ (sc.getD a 0 = sc.getD b 0 ∧ a < b)
theorem ahd_iff (sc : List Int) (a b : Nat) : aheadB (sc.getD a 0) (sc.getD b 0) a b = true ↔ ahd sc a b := by
  unfold aheadB ahd
  by_cases h : sc.getD a 0 = sc.getD b 0
  · rw [if_pos h]; simp only [decide_eq_true_eq]; omega
  · rw [if_neg h]; simp only [decide_eq_true_eq]; omega
theorem ahd_false (sc : List Int) (a b : Nat) : aheadB (sc.getD a 0) (sc.getD b 0) a b = false ↔ ¬ ahd sc a b := by
  rw [← ahd_iff]; simp
theorem ahd_asymm {sc : List Int} {a b : Nat} (h : ahd sc a b) : ¬ ahd sc b a := by unfold ahd at *; omega
theorem ahd_trans {sc : List Int} {a b c : Nat} (h : ahd sc a b) (k : ahd sc b c) : ahd sc a c := by unfold ahd at *; omega
theorem ahd_ntrans {sc : List Int} {a b c : Nat} (h : ¬ ahd sc a b) (k : ¬ ahd sc b c) : ¬ ahd sc a c := by unfold ahd at *; omega
theorem ahd_total {sc : List Int} {a b : Nat} (h : a ≠ b) (k : ¬ ahd sc a b) : ahd sc b a := by unfold ahd at *; omega
def HeapFrom (sc : List Int) (hp : List Nat) (lo : Nat) : Prop := ∀ j, 0 < j → j < hp.length → lo ≤ (j - 1) / 2 → ¬ ahd sc (hp.getD j 0) (hp.getD ((j - 1) / 2) 0)
def UpInv (sc : List Int) (hp : List Nat) (i : Nat) : Prop :=
  (∀ j, 0 < j → j < hp.length → j ≠ i → ¬ ahd sc (hp.getD j 0) (hp.getD ((j - 1) / 2) 0)) ∧
  (∀ j, 0 < j → j < hp.length → (j - 1) / 2 = i → 0 < i → ¬ ahd sc (hp.getD j 0) (hp.getD ((i - 1) / 2) 0))
theorem up_step {sc : List Int} {hp : List Nat} {i : Nat} (h : UpInv sc hp i) (h0 : 0 < i) (hi : i < hp.length) (ha : ahd sc (hp.getD i 0) (hp.getD ((i - 1) / 2) 0)) :
    UpInv sc (swapL hp i ((i - 1) / 2)) ((i - 1) / 2) := by
  have hp' : (i - 1) / 2 < hp.length := by omega
  obtain ⟨h1, h2⟩ := h
  refine ⟨fun j j0 jl jn => ?_, fun j j0 jl jp p0 => ?_⟩
  · rw [swapL_len] at jl
    rw [swapL_get _ _ _ _ hi hp', swapL_get _ _ _ _ hi hp', if_neg jn]
    by_cases ji : j = i
    · subst ji; rw [if_pos rfl, if_pos rfl]; exact ahd_asymm ha
    · rw [if_neg ji]
      by_cases jp : (j - 1) / 2 = (i - 1) / 2
      · rw [if_pos jp]
        intro hx
        exact h1 j j0 jl ji (by rw [jp]; exact ahd_trans hx ha)
      · rw [if_neg jp]
        by_cases jq : (j - 1) / 2 = i
        · rw [if_pos jq]; exact h2 j j0 jl jq h0
        · rw [if_neg jq]; exact h1 j j0 jl ji
  · rw [swapL_len] at jl
    rw [swapL_get _ _ _ _ hi hp', swapL_get _ _ _ _ hi hp', if_neg (by omega : ¬ j = (i - 1) / 2), if_neg (by omega : ¬ ((i - 1) / 2 - 1) / 2 = (i - 1) / 2), if_neg (by omega : ¬ ((i - 1) / 2 - 1) / 2 = i)]
    have hq := h1 ((i - 1) / 2) p0 hp' (by omega)
    by_cases ji : j = i
    · rw [if_pos ji]; exact hq
    · rw [if_neg ji]
      have := h1 j j0 jl ji
      rw [jp] at this
      exact ahd_ntrans this hq
theorem up_stop {sc : List Int} {hp : List Nat} {i : Nat} (h : UpInv sc hp i) (hs : 0 < i → i < hp.length → ¬ ahd sc (hp.getD i 0) (hp.getD ((i - 1) / 2) 0)) : HeapFrom sc hp 0 := by
  intro j j0 jl _
  by_cases ji : j = i
  · subst ji; exact hs j0 jl
  · exact h.1 j j0 jl ji
def DownInv (sc : List Int) (hp : List Nat) (lo i : Nat) : Prop :=
  lo ≤ i ∧ (∀ j, 0 < j → j < hp.length → lo ≤ (j - 1) / 2 → (j - 1) / 2 ≠ i → ¬ ahd sc (hp.getD j 0) (hp.getD ((j - 1) / 2) 0)) ∧
  (∀ j, 0 < j → j < hp.length → (j - 1) / 2 = i → 0 < i → lo ≤ (i - 1) / 2 → ¬ ahd sc (hp.getD j 0) (hp.getD ((i - 1) / 2) 0))
theorem down_step {sc : List Int} {hp : List Nat} {lo i k : Nat} (h : DownInv sc hp lo i) (k0 : 0 < k) (hk : k < hp.length) (hp1 : (k - 1) / 2 = i)
    (hb : ∀ j, 0 < j → j < hp.length → (j - 1) / 2 = i → ¬ ahd sc (hp.getD j 0) (hp.getD k 0)) (ha : ahd sc (hp.getD k 0) (hp.getD i 0)) : DownInv sc (swapL hp i k) lo k := by
  have hi : i < hp.length := by omega
  obtain ⟨h0, h1, h2⟩ := h
  refine ⟨by omega, fun j j0 jl jlo jn => ?_, fun j j0 jl jp _ jlo => ?_⟩
  · rw [swapL_len] at jl
    rw [swapL_get _ _ _ _ hi hk, swapL_get _ _ _ _ hi hk, if_neg jn]
    by_cases jp : (j - 1) / 2 = i
    · rw [if_pos jp]
      by_cases jk : j = k
      · rw [if_pos jk]; exact ahd_asymm ha
      · rw [if_neg jk, if_neg (by omega : ¬ j = i)]; exact hb j j0 jl jp
    · rw [if_neg jp, if_neg (by omega : ¬ j = k)]
      by_cases ji : j = i
      · subst ji; rw [if_pos rfl]; exact h2 k k0 hk hp1 j0 jlo
      · rw [if_neg ji]; exact h1 j j0 jl jlo jp
  · rw [swapL_len] at jl
    rw [swapL_get _ _ _ _ hi hk, swapL_get _ _ _ _ hi hk, if_neg (by omega : ¬ j = k), if_neg (by omega : ¬ j = i), if_neg (by omega : ¬ (k - 1) / 2 = k), if_pos hp1]
    have := h1 j j0 jl (by omega) (by omega)
    rw [jp] at this
    exact this
theorem down_stop {sc : List Int} {hp : List Nat} {lo i : Nat} (h : DownInv sc hp lo i) (hs : ∀ j, 0 < j → j < hp.length → (j - 1) / 2 = i → ¬ ahd sc (hp.getD j 0) (hp.getD i 0)) : HeapFrom sc hp lo := by
  intro j j0 jl jlo
  by_cases jp : (j - 1) / 2 = i
  · rw [jp]; exact hs j j0 jl jp
  · exact h.2.1 j j0 jl jlo jp
/-- the heap's first one goes out ahead of all others -/
theorem heap_first {sc : List Int} {hp : List Nat} (h : HeapFrom sc hp 0) : ∀ j, j < hp.length → ¬ ahd sc (hp.getD j 0) (hp.getD 0 0) := by
  intro j
  induction j using Nat.strongRecOn with
  | ind j ih =>
    intro jl
    by_cases j0 : j = 0
    · subst j0; unfold ahd; omega
    · exact ahd_ntrans (h j (by omega) jl (Nat.zero_le _)) (ih ((j - 1) / 2) (by omega) (by omega))
theorem heapFrom_down {sc : List Int} {hp : List Nat} {lo : Nat} (h : HeapFrom sc hp (lo + 1)) : DownInv sc hp lo lo :=
  ⟨Nat.le_refl _, fun j j0 jl jlo jn => h j j0 jl (by omega), fun j j0 jl jp l0 jlo => by omega⟩
theorem heapFrom_half (sc : List Int) (hp : List Nat) : HeapFrom sc hp (hp.length / 2 + 1) := fun j j0 jl jlo => by omega
theorem upInv_snoc {sc : List Int} {hp : List Nat} (h : HeapFrom sc hp 0) (v : Nat) : UpInv sc (hp ++ [v]) hp.length := by
  refine ⟨fun j j0 jl jn => ?_, fun j j0 jl jp _ => ?_⟩
  · have jl' : j < hp.length := by simp at jl; omega
    have := h j j0 jl' (Nat.zero_le _)
    have e1 : (hp ++ [v]).getD j 0 = hp.getD j 0 := by simp [List.getElem?_append_left jl']
    have e2 : (hp ++ [v]).getD ((j - 1) / 2) 0 = hp.getD ((j - 1) / 2) 0 := by simp [List.getElem?_append_left (show (j - 1) / 2 < hp.length by omega)]
    rw [e1, e2]; exact this
  · simp at jl; omega
end Go.Proofs.Ytfhbndfdlnbfpaa
