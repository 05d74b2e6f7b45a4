/- Lines, plainly: how a text of lines is read. No program in sight. -/
import Derived.Test.YtfhicmjfifpjkaaLinQ
namespace Go.Proofs.Ytfhicmjfifpjkaa
open Go.RowKit
set_option linter.unusedVariables false
theorem not10 {c : UInt8} (h : c ≠ 10) : at10 c.toNat = false := by
  unfold at10
  rw [beq_eq_false_iff_ne]
  intro e; exact h (UInt8.toNat_inj.1 e)
theorem not35 {c : UInt8} (h : c ≠ 35) : at35 c.toNat = false := by
  unfold at35
  rw [beq_eq_false_iff_ne]
  intro e; exact h (UInt8.toNat_inj.1 e)
/-- a line that ends -/
theorem readL_nl (most : Nat) (a b : List UInt8) (no : Nat) (out : List LineD) (ha : ∀ c ∈ a, c ≠ 10) (hm : no ≤ most) {ws : List (List UInt8)} {cs : List Nat} (hs : splitL a = .ok ws cs) :
    readL most (a ++ 10 :: b) no out = readL most b (no + 1) (if ws.length = 0 then out else out ++ [⟨no, ws, cs⟩]) := by
  have hu : upTo at10 (a ++ 10 :: b) 0 = a.length := by
    have := upTo_word at10 (a ++ 10 :: b) 0 a (10 :: b) (by simp) (by simp) (fun c hc => not10 (ha c hc)) (.inr ⟨10, b, rfl, by decide⟩)
    simpa using this
  rw [readL_ok most _ no out (by simp) (by omega) (ws := ws) (cs := cs) (by rw [hu, List.take_left']; exact hs; rfl), hu]
  congr 1
  have e : a ++ 10 :: b = (a ++ [10]) ++ b := by simp
  rw [e, List.drop_left']
  simp
/-- the last line, if none ends it -/
theorem readL_last (most : Nat) (a : List UInt8) (no : Nat) (out : List LineD) (hne : a ≠ []) (ha : ∀ c ∈ a, c ≠ 10) (hm : no ≤ most) {ws : List (List UInt8)} {cs : List Nat} (hs : splitL a = .ok ws cs) :
    readL most a no out = .ok (if ws.length = 0 then out else out ++ [⟨no, ws, cs⟩]) := by
  have hu : upTo at10 a 0 = a.length := by
    have := upTo_word at10 a 0 a [] (by simp) (by simp) (fun c hc => not10 (ha c hc)) (.inl rfl)
    simpa using this
  rw [readL_ok most _ no out hne (by omega) (ws := ws) (cs := cs) (by rw [hu, List.take_length]; exact hs), hu, List.drop_eq_nil_of_le (by omega), readL_nil]
theorem bare_cut (a b : List UInt8) (ha : ∀ c ∈ a, c ≠ 35) : bare (a ++ 35 :: b) = a := by
  have hu : upTo at35 (a ++ 35 :: b) 0 = a.length := by
    have := upTo_word at35 (a ++ 35 :: b) 0 a (35 :: b) (by simp) (by simp) (fun c hc => not35 (ha c hc)) (.inr ⟨35, b, rfl, by decide⟩)
    simpa using this
  unfold bare
  rw [hu, List.take_left']
  rfl
theorem bare_all (a : List UInt8) (ha : ∀ c ∈ a, c ≠ 35) : bare a = a := by
  have hu : upTo at35 a 0 = a.length := by
    have := upTo_word at35 a 0 a [] (by simp) (by simp) (fun c hc => not35 (ha c hc)) (.inl rfl)
    simpa using this
  unfold bare
  rw [hu, List.take_length]
theorem split_nil : splitL [] = .ok [] [] := by
  unfold splitL
  rw [show bare [] = [] from rfl, scan_end _ _ _ _ (by simp)]
theorem split_remark (b : List UInt8) : splitL (35 :: b) = .ok [] [] := by
  unfold splitL
  rw [show (35 :: b : List UInt8) = [] ++ 35 :: b from rfl, bare_cut [] b (by simp), scan_end _ _ _ _ (by simp)]
theorem word_mem {l : List UInt8} (h : wordL l = true) {c : UInt8} (hc : c ∈ l) : c ≠ 10 ∧ c ≠ 35 := by
  obtain ⟨_, _, h3⟩ := (wordL_iff l).1 h
  obtain ⟨i, hi, rfl⟩ := List.getElem_of_mem hc
  have := wordC_yes (by8_mem l i hi ▸ h3 i hi)
  constructor
  · intro e; rw [e] at this; simp at this
  · intro e; rw [e] at this; simp at this
theorem blank_mem {c : UInt8} (h : blankC c.toNat = true) : c ≠ 10 ∧ c ≠ 35 := by
  constructor
  · rintro rfl; simp [blankC] at h
  · rintro rfl; simp [blankC] at h
theorem segs_mem {l : List (List UInt8 × List UInt8)} (hall : ∀ p ∈ l, (∀ c ∈ p.1, blankC c.toNat = true) ∧ wordL p.2 = true) {c : UInt8} (hc : c ∈ segs l) : c ≠ 10 ∧ c ≠ 35 := by
  unfold segs at hc
  obtain ⟨p, hp, hc⟩ := List.mem_flatMap.1 hc
  rcases List.mem_append.1 hc with hc | hc
  · exact blank_mem ((hall p hp).1 c hc)
  · exact word_mem (hall p hp).2 hc
theorem segs_len {l : List (List UInt8 × List UInt8)} {m : Nat} (h : ∀ p ∈ l, p.1.length + p.2.length ≤ m) : (segs l).length ≤ m * l.length := by
  induction l with
  | nil => simp [segs]
  | cons p l ih =>
    have h1 := h p (by simp)
    have h2 := ih (fun q hq => h q (by simp [hq]))
    have e : segs (p :: l) = p.1 ++ p.2 ++ segs l := by simp [segs]
    rw [e, List.length_append, List.length_append, List.length_cons, Nat.mul_succ]
    omega
/-- the text of the law LinesBlanks -/
theorem blanks_read (l : List (List UInt8 × List UInt8)) (rem : List UInt8) (hpos : 0 < l.length) (h20 : l.length ≤ 20) (hall : ∀ p ∈ l, (∀ c ∈ p.1, blankC c.toNat = true) ∧ wordL p.2 = true) (hgap : ∀ p ∈ l, p.1 ≠ [] ∧ p.1.length ≤ 5) (hrem : ∀ c ∈ rem, c ≠ 10) (hrl : rem.length ≤ 100) :
    ∃ cs, readL 800 ([10] ++ segs l ++ [32, 35] ++ rem ++ [10, 10, 35, 32] ++ rem) 1 [] = .ok [⟨2, l.map (·.2), cs⟩] ∧ ([10] ++ segs l ++ [32, 35] ++ rem ++ [10, 10, 35, 32] ++ rem).length ≤ 20000 := by
  have hlen := segs_len (l := l) (m := 85) (fun p hp => by have := (hgap p hp).2; have := ((wordL_iff p.2).1 (hall p hp).2).2.1; omega)
  have hb : bare (segs l ++ [32, 35] ++ rem) = segs l ++ [32] := by
    have e : segs l ++ [32, 35] ++ rem = (segs l ++ [32]) ++ 35 :: rem := by simp
    rw [e]
    refine bare_cut _ _ (fun c hc => ?_)
    rcases List.mem_append.1 hc with hc | hc
    · exact (segs_mem hall hc).2
    · rw [List.mem_singleton] at hc; rw [hc]; decide
  obtain ⟨cs, hsc⟩ := scan_segs (segs l ++ [32]) l 0 [32] [] [] (by simp) (by simp) hall (fun p hp => (hgap p (List.mem_of_mem_drop hp)).1) (fun c hc => by rw [List.mem_singleton] at hc; rw [hc]; decide) (by simpa using h20)
  have hsp : splitL (segs l ++ [32, 35] ++ rem) = .ok (l.map (·.2)) cs := by
    unfold splitL
    rw [hb, hsc]; simp
  refine ⟨cs, ?_, by simp; omega⟩
  have e1 : [10] ++ segs l ++ [32, 35] ++ rem ++ [10, 10, 35, 32] ++ rem = [] ++ 10 :: ((segs l ++ [32, 35] ++ rem) ++ 10 :: ([] ++ 10 :: (35 :: 32 :: rem))) := by simp
  rw [e1, readL_nl 800 [] _ 1 [] (by simp) (by omega) split_nil, if_pos (by simp)]
  rw [readL_nl 800 (segs l ++ [32, 35] ++ rem) _ 2 [] ?_ (by omega) hsp, if_neg (by simp; intro e; subst e; simp at hpos)]
  · rw [readL_nl 800 [] _ 3 _ (by simp) (by omega) split_nil, if_pos (by simp)]
    rw [readL_last 800 (35 :: 32 :: rem) 4 _ (by simp) ?_ (by omega) (split_remark _), if_pos (by simp)]
    · rfl
    · intro c hc
      simp only [List.mem_cons] at hc
      rcases hc with rfl | rfl | hc
      · decide
      · decide
      · exact hrem c hc
  · intro c hc
    rcases List.mem_append.1 hc with hc | hc
    · rcases List.mem_append.1 hc with hc | hc
      · exact (segs_mem hall hc).1
      · simp only [List.mem_cons, List.not_mem_nil, or_false] at hc
        rcases hc with rfl | rfl <;> decide
    · exact hrem c hc
end Go.Proofs.Ytfhicmjfifpjkaa
