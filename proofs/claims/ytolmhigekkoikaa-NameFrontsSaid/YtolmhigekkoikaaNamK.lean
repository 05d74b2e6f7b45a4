/- Plain facts on a name's own patterns: no program in sight. -/
import Derived.Test.YtolmhigekkoikaaNamJ
namespace Go.Proofs.Ytolmhigekkoikaa
open Go.RowKit
set_option linter.unusedVariables false
theorem front_len (l : List UInt8) (h : frontL l = true) : l.length ≤ 20 := by
  unfold frontL at h; simp only [Bool.and_eq_true, decide_eq_true_eq] at h; exact h.1.1
theorem front_letters (l : List UInt8) (h : frontL l = true) : ∀ i, i < l.length → letC (by8 l i) = true := by
  unfold frontL at h; simp only [Bool.and_eq_true] at h; exact (lettersB_iff l).1 h.2
theorem plain_front (l : List UInt8) (h : plainL l = true) : 0 < l.length ∧ frontL l = true := by
  unfold plainL at h
  simp only [Bool.and_eq_true] at h
  refine ⟨?_, h.1.2⟩
  cases l with
  | nil => simp at h
  | cons => simp
theorem not_star_of_letter (l : List UInt8) (h0 : 0 < l.length) (h : letC (by8 l (l.length - 1)) = true) : starL l = false := by
  rw [star_of l h0, beq_eq_false_iff_ne]
  intro e
  rw [e] at h
  exact absurd h (by decide)
theorem plain_not_star (l : List UInt8) (h : plainL l = true) : starL l = false := by
  obtain ⟨h1, h2⟩ := plain_front l h
  exact not_star_of_letter l h1 (front_letters l h2 _ (by omega))
/-- a scoped text, written out -/
theorem scoped_text (l : List UInt8) (h : hasScope l = true) : l = 64 :: scopeL l ++ 47 :: restL l := by
  have h64 : by8 l 0 = 64 := by unfold hasScope at h; simp at h; exact h.2
  have hlt : strokeL l < l.length := by unfold hasScope at h; simp at h; exact h.1
  have h47 := stroke_at l hlt
  have hs : scopeL l = (l.take (strokeL l)).drop 1 := by unfold scopeL; rw [h]; rfl
  have hr : restL l = l.drop (strokeL l + 1) := by unfold restL; rw [h]; rfl
  cases l with
  | nil => simp at hlt
  | cons c t =>
    rw [by8_cons_zero] at h64
    have hc : c = 64 := UInt8.toNat_inj.1 h64
    subst hc
    have e := stroke_cons 64 t (by decide)
    rw [hs, hr]
    rw [e] at hlt h47 ⊢
    rw [by8_cons_succ] at h47
    simp only [List.take_succ_cons, List.drop_succ_cons, List.drop_zero, List.length_cons] at *
    have ht : t[strokeL t]'(by omega) = 47 := by rw [by8_mem t _ (by omega)] at h47; exact UInt8.toNat_inj.1 h47
    have := List.take_append_drop (strokeL t) t
    rw [List.drop_eq_getElem_cons (by omega), ht] at this
    simp only [List.cons_append]
    rw [this]
theorem check_parts (l : List UInt8) (h : checkL l = true) : (hasScope l = true ∧ plainL (scopeL l) = true ∧ plainL (restL l) = true) ∨ (hasScope l = false ∧ plainL l = true) := by
  unfold checkL at h
  cases hs : hasScope l
  · rw [hs] at h; exact .inr ⟨rfl, h⟩
  · rw [hs] at h
    have h : (plainL (scopeL l) && plainL (restL l)) = true := h
    rw [Bool.and_eq_true] at h
    exact .inl ⟨rfl, h.1, h.2⟩
theorem check_len (l : List UInt8) (h : checkL l = true) : l.length ≤ 42 := by
  rcases check_parts l h with ⟨h1, h2, h3⟩ | ⟨_, h2⟩
  · have e := congrArg List.length (scoped_text l h1)
    have a := front_len _ (plain_front _ h2).2
    have b := front_len _ (plain_front _ h3).2
    simp at e
    omega
  · have := front_len _ (plain_front _ h2).2; omega
theorem by8_left (a b : List UInt8) (i : Nat) (h : i < a.length) : by8 (a ++ b) i = by8 a i := by
  unfold by8 List.getD; rw [List.getElem?_append_left h]
theorem by8_right (a b : List UInt8) (i : Nat) (h : a.length ≤ i) : by8 (a ++ b) i = by8 b (i - a.length) := by
  unfold by8 List.getD; rw [List.getElem?_append_right h]
theorem by8_append_last (a b : List UInt8) (h : 0 < b.length) : by8 (a ++ b) ((a ++ b).length - 1) = by8 b (b.length - 1) := by
  rw [List.length_append, by8_right a b _ (by omega)]
  congr 1
  omega
theorem check_not_star (l : List UInt8) (h : checkL l = true) : starL l = false := by
  rcases check_parts l h with ⟨h1, h2, h3⟩ | ⟨_, h2⟩
  · obtain ⟨p, f⟩ := plain_front _ h3
    have e := scoped_text l h1
    have e2 : l = (64 :: scopeL l ++ [47]) ++ restL l := by simpa using e
    refine not_star_of_letter l (by rw [e]; simp) ?_
    have hl := by8_append_last (64 :: scopeL l ++ [47]) (restL l) p
    rw [← e2] at hl
    rw [hl]
    exact front_letters _ f _ (by omega)
  · exact plain_not_star l h2
theorem star_snoc (l : List UInt8) : starL (l ++ [42]) = true ∧ headL (l ++ [42]) = l := by
  constructor
  · rw [star_of _ (by simp), by8_append_last l [42] (by simp)]; rfl
  · unfold headL; simp
/-- its own pattern -/
theorem match_self (l : List UInt8) (h : checkL l = true) : matchL l l = true := by
  have hs := check_not_star l h
  unfold matchL globL
  rw [hs, h]; simp
theorem match_all (l : List UInt8) (h : checkL l = true) : matchL [42] l = true := by
  unfold matchL
  rw [h, show globL [42] = true from by decide, show starL [42] = true from by decide, show headL [42] = [] from by decide]
  simp
theorem match_front (l : List UInt8) (n : Nat) (hn : n ≤ l.length) (h : checkL l = true) : matchL (l.take n ++ [42]) l = globL (l.take n ++ [42]) := by
  obtain ⟨h1, h2⟩ := star_snoc (l.take n)
  unfold matchL
  rw [h, h1, h2, if_pos rfl]
  have e : (l.take n ++ [42]).length - 1 = n := by simp; omega
  rw [e, decide_eq_true hn]
  simp
theorem stroke_letters (a b : List UInt8) (h : ∀ i, i < a.length → letC (by8 a i) = true) : strokeL (a ++ 47 :: b) = a.length := by
  symm
  apply stroke_unique
  · intro i hi
    rw [by8_left _ _ _ hi]
    intro e
    have := h i hi
    rw [e] at this
    exact absurd this (by decide)
  · simp
  · intro _
    rw [by8_right _ _ _ (Nat.le_refl _), Nat.sub_self]; rfl
theorem match_scope (l : List UInt8) (h1 : hasScope l = true) (h2 : plainL (scopeL l) = true) (h3 : plainL (restL l) = true) : matchL (64 :: scopeL l ++ [47, 42]) l = true := by
  have hc : checkL l = true := by unfold checkL; rw [h1, if_pos rfl, h2, h3]; rfl
  have e := scoped_text l h1
  obtain ⟨hp, hf⟩ := plain_front _ h2
  generalize scopeL l = a at *
  generalize restL l = r at *
  have hg : (64 :: a ++ [47, 42]) = (64 :: a ++ [47]) ++ [42] := by simp
  rw [hg]
  obtain ⟨s1, s2⟩ := star_snoc (64 :: a ++ [47])
  have hk : strokeL (64 :: a ++ [47]) = a.length + 1 := by
    have := stroke_cons 64 (a ++ [47]) (by decide)
    rw [stroke_letters a [] (front_letters a hf)] at this
    exact this
  have hh : hasScope (64 :: a ++ [47]) = true := by
    unfold hasScope; rw [hk, decide_eq_true (by simp)]; rfl
  have hsc : scopeL (64 :: a ++ [47]) = a := by unfold scopeL; rw [hh, if_pos rfl, hk]; simp
  have hre : restL (64 :: a ++ [47]) = [] := by unfold restL; rw [hh, if_pos rfl, hk]; simp
  have hgl : globL ((64 :: a ++ [47]) ++ [42]) = true := by
    unfold globL globHead
    rw [s1, s2, if_pos rfl, hh, if_pos rfl, hsc, hre, h2]; rfl
  unfold matchL
  rw [hgl, hc, s1, s2, if_pos rfl]
  have el : ((64 :: a ++ [47]) ++ [42]).length - 1 = (64 :: a ++ [47]).length := by simp
  rw [el]
  have e2 : l = (64 :: a ++ [47]) ++ r := by rw [e]; simp
  have hle : (64 :: a ++ [47]).length ≤ l.length := by
    have := congrArg List.length e2
    simp at this
    simp
    omega
  rw [decide_eq_true hle, e2, List.take_left']
  · simp
  · rfl
end Go.Proofs.Ytolmhigekkoikaa
