/- What is so of lines that were read: plain. -/
import Derived.Test.YtfhicmjfifpjkaaLinAA
namespace Go.Proofs.Ytfhicmjfifpjkaa
open Go.RowKit
set_option linter.unusedVariables false
theorem scan_short (t : List UInt8) (n : Nat) : ∀ (k : Nat) (ws : List (List UInt8)) (cs : List Nat), t.length - k ≤ n → (∀ w ∈ ws, w.length ≤ 80) → (∀ ws' cs', scan t k ws cs = .ok ws' cs' → ∀ w ∈ ws', w.length ≤ 80) ∧ (∀ c col, scan t k ws cs = .bad c col → c = 1 ∨ c = 2) := by
  induction n with
  | zero =>
    intro k ws cs hn hs
    rw [scan_end t k ws cs (by omega)]
    constructor
    · intro ws' cs' h; injection h with h1 h2; subst h1; exact hs
    · intro c col h; cases h
  | succ n ih =>
    intro k ws cs hn hs
    by_cases hk : k < t.length
    · cases hb : blankC (by8 t k)
      · by_cases hlong : ws.length = 20 ∨ 80 < upTo blankC t k - k
        · rw [scan_long t k ws cs hk hb hlong]
          constructor
          · intro ws' cs' h; cases h
          · intro c col h; injection h with h1 h2; omega
        · by_cases hx : upTo badC (t.take (upTo blankC t k)) k < upTo blankC t k
          · rw [scan_bad t k ws cs hk hb hlong hx]
            constructor
            · intro ws' cs' h; cases h
            · intro c col h; injection h with h1 h2; omega
          · rw [scan_word t k ws cs hk hb hlong hx]
            have := blank_end t k hk hb
            refine ih _ _ _ (by omega) (fun w hw => ?_)
            rcases List.mem_append.1 hw with hw | hw
            · exact hs w hw
            · rw [List.mem_singleton] at hw; subst hw
              rw [List.length_drop, List.length_take]; omega
      · rw [scan_blank t k ws cs hk hb]
        exact ih _ _ _ (by omega) hs
    · rw [scan_end t k ws cs hk]
      constructor
      · intro ws' cs' h; injection h with h1 h2; subst h1; exact hs
      · intro c col h; cases h
structure GoodLine (x : LineD) : Prop where
  len : x.ws.length = x.cs.length
  le20 : x.ws.length ≤ 20
  short : ∀ w ∈ x.ws, w.length ≤ 80
  no : 1 ≤ x.no
  some_ : 1 ≤ x.ws.length
theorem GoodLine.shortK {x : LineD} (h : GoodLine x) : Short x := by
  intro k
  unfold wd
  by_cases hk : k < x.ws.length
  · have e : x.ws.getD k [] = x.ws[k] := by simp [hk]
    rw [e]; exact h.short _ (List.getElem_mem _)
  · simp [List.getD, List.getElem?_eq_none (Nat.le_of_not_lt hk)]
theorem readL_good (most : Nat) (n : Nat) : ∀ (rest : List UInt8) (no : Nat) (out : List LineD), rest.length ≤ n → 1 ≤ no → (∀ x ∈ out, GoodLine x) → (∀ L, readL most rest no out = .ok L → ∀ x ∈ L, GoodLine x) ∧ (∀ c l k, readL most rest no out = .bad c l k → c = 1 ∨ c = 2) := by
  induction n with
  | zero =>
    intro rest no out hn h1 ho
    obtain rfl := List.length_eq_zero_iff.1 (Nat.le_zero.1 hn)
    rw [readL_nil]
    exact ⟨fun L h => by injection h with h; subst h; exact ho, fun c l k h => by cases h⟩
  | succ n ih =>
    intro rest no out hn h1 ho
    by_cases hr : rest = []
    · subst hr
      rw [readL_nil]
      exact ⟨fun L h => by injection h with h; subst h; exact ho, fun c l k h => by cases h⟩
    · by_cases hm : most < no
      · rw [readL_most most rest no out hr hm]
        exact ⟨fun L h => (by cases h), fun c l k h => (by injection h with h1 h2 h3; omega)⟩
      · cases hs : splitL (rest.take (upTo at10 rest 0)) with
        | bad c col =>
          rw [readL_bad most rest no out hr hm hs]
          exact ⟨fun L h => (by cases h), fun c' l k h => (by injection h with h1 h2 h3; subst h1; exact (scan_short _ _ 0 [] [] (Nat.le_refl _) (by simp)).2 c col hs)⟩
        | ok ws cs =>
          rw [readL_ok most rest no out hr hm hs]
          have hl := split_len hs
          have hsh := (scan_short _ _ 0 [] [] (Nat.le_refl _) (by simp)).1 ws cs hs
          refine ih _ _ _ (by rw [List.length_drop]; omega) (by omega) ?_
          by_cases h0 : ws.length = 0
          · rw [if_pos h0]; exact ho
          · rw [if_neg h0]
            intro x hx
            rcases List.mem_append.1 hx with hx | hx
            · exact ho x hx
            · rw [List.mem_singleton] at hx; subst hx
              exact ⟨hl.1, hl.2, hsh, h1, by show 1 ≤ ws.length; omega⟩
theorem top_good {l : List UInt8} {L : List LineD} (h : readTop l = .ok L) : ∀ x ∈ L, GoodLine x := by
  unfold readTop at h
  split at h
  · cases h
  · exact (readL_good 800 _ l 1 [] (Nat.le_refl _) (Nat.le_refl _) (by simp)).1 L h
theorem top_bad {l : List UInt8} {c ln k : Nat} (h : readTop l = .bad c ln k) : c = 1 ∨ c = 2 := by
  unfold readTop at h
  split at h
  · injection h with h1 h2 h3; omega
  · exact (readL_good 800 _ l 1 [] (Nat.le_refl _) (Nat.le_refl _) (by simp)).2 c ln k h
theorem readL_count (most : Nat) (n : Nat) : ∀ (rest : List UInt8) (no : Nat) (out : List LineD), rest.length ≤ n → ∀ L, readL most rest no out = .ok L → L.length ≤ out.length + (most + 1 - no) := by
  induction n with
  | zero =>
    intro rest no out hn L h
    obtain rfl := List.length_eq_zero_iff.1 (Nat.le_zero.1 hn)
    rw [readL_nil] at h
    injection h with h; subst h; omega
  | succ n ih =>
    intro rest no out hn L h
    by_cases hr : rest = []
    · subst hr
      rw [readL_nil] at h
      injection h with h; subst h; omega
    · by_cases hm : most < no
      · rw [readL_most most rest no out hr hm] at h; cases h
      · cases hs : splitL (rest.take (upTo at10 rest 0)) with
        | bad c col => rw [readL_bad most rest no out hr hm hs] at h; cases h
        | ok ws cs =>
          rw [readL_ok most rest no out hr hm hs] at h
          have := ih _ _ _ (by rw [List.length_drop]; omega) L h
          split at this
          · omega
          · rw [List.length_append] at this; simp at this; omega
theorem top_count {l : List UInt8} {L : List LineD} (h : readTop l = .ok L) : L.length ≤ 800 := by
  unfold readTop at h
  split at h
  · cases h
  · have := readL_count 800 _ l 1 [] (Nat.le_refl _) L h
    simpa using this
/-- the first of a slice of structs, as a slice of one -/
theorem FixOf.one {α : Type} {n : Nat} {R : World → List Value → α → Prop} {F : Nat → Prop} {w : World} {b off cap len : Nat} {x : α} {t : List α} (h : FixOf n R F w (.slice (some ⟨b, off, none⟩) len cap) (x :: t)) : FixOf n R F w (.slice (some ⟨b, off, none⟩) 1 cap) [x] := by
  rcases h with ⟨_, _, _, h, _⟩ | ⟨b', off', cap', css, h1, h2, h3, h4, h5, h6⟩
  · cases h
  · simp only [Value.slice.injEq, Option.some.injEq, Addr.mk.injEq] at h1
    obtain ⟨⟨rfl, rfl, _⟩, _, rfl⟩ := h1
    match css, h5 with
    | cs :: css, h5 =>
      refine .inr ⟨b, off, cap, [cs], rfl, by simp at h2 ⊢; omega, h3, h4, rfl, fun i hi hi' w' hN => ?_⟩
      have hi0 : i = 0 := by simp at hi; exact hi
      subst hi0
      exact h6 0 (by simp) (by simp) w' hN
end Go.Proofs.Ytfhicmjfifpjkaa
