/- The order of literals, sorted lists without doubles: plain. -/
import Derived.Test.YteimfcokobdldaaCnE
namespace Go.Proofs.Yteimfcokobdldaa
open Go.RowKit
set_option linter.unusedVariables false
/-- does a literal stand ahead of another one? -/
def befI (a b : Int) : Prop := varI a < varI b ∨ (varI a = varI b ∧ a < b)
instance (a b : Int) : Decidable (befI a b) := by unfold befI; infer_instance
theorem bef_irrefl (a : Int) : ¬ befI a a := by unfold befI; omega
theorem bef_trans {a b c : Int} (h1 : befI a b) (h2 : befI b c) : befI a c := by unfold befI at *; omega
theorem bef_total {a b : Int} (h1 : ¬ befI a b) (h2 : ¬ befI b a) : a = b := by unfold befI at *; omega
theorem bef_asymm {a b : Int} (h1 : befI a b) : ¬ befI b a := by unfold befI at *; omega
/-- in order, each once -/
def Sorted (l : List Int) : Prop := l.Pairwise befI
theorem sorted_ext : ∀ (l1 l2 : List Int), Sorted l1 → Sorted l2 → (∀ x, x ∈ l1 ↔ x ∈ l2) → l1 = l2 := by
  intro l1
  induction l1 with
  | nil =>
    intro l2 _ _ h
    cases l2 with
    | nil => rfl
    | cons y t => exact absurd ((h y).2 (by simp)) (by simp)
  | cons x s ih =>
    intro l2 h1 h2 h
    cases l2 with
    | nil => exact absurd ((h x).1 (by simp)) (by simp)
    | cons y t =>
      unfold Sorted at h1 h2
      rw [List.pairwise_cons] at h1 h2
      have hxy : x = y := by
        have a1 := (h x).1 (by simp)
        have a2 := (h y).2 (by simp)
        simp only [List.mem_cons] at a1 a2
        rcases a1 with a1 | a1
        · exact a1
        · rcases a2 with a2 | a2
          · exact a2.symm
          · exact absurd (h1.1 y a2) (bef_asymm (h2.1 x a1))
      subst hxy
      congr 1
      refine ih t h1.2 h2.2 (fun z => ⟨fun hz => ?_, fun hz => ?_⟩)
      · have := (h z).1 (by simp [hz])
        simp only [List.mem_cons] at this
        rcases this with rfl | h3
        · exact absurd (h1.1 z hz) (bef_irrefl z)
        · exact h3
      · have := (h z).2 (by simp [hz])
        simp only [List.mem_cons] at this
        rcases this with rfl | h3
        · exact absurd (h2.1 z hz) (bef_irrefl z)
        · exact h3
end Go.Proofs.Yteimfcokobdldaa
