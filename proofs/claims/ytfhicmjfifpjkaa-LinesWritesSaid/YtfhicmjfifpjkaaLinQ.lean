/- Words, plainly: what a line of words is scanned as. No program in sight. -/
import Derived.Test.YtfhicmjfifpjkaaLinP
namespace Go.Proofs.Ytfhicmjfifpjkaa
open Go.RowKit
set_option linter.unusedVariables false
def wordC (c : Nat) : Bool := decide (33 ≤ c) && decide (c ≤ 126) && !(c == 35)
def wordL (l : List UInt8) : Bool := !l.isEmpty && decide (l.length ≤ 80) && l.all fun c => wordC c.toNat
theorem wordL_iff (l : List UInt8) : wordL l = true ↔ l ≠ [] ∧ l.length ≤ 80 ∧ ∀ i, i < l.length → wordC (by8 l i) = true := by
  unfold wordL
  rw [Bool.and_eq_true, Bool.and_eq_true, List.all_eq_true, decide_eq_true_eq, and_assoc]
  constructor
  · rintro ⟨h1, h2, h3⟩
    refine ⟨by intro e; subst e; simp at h1, h2, fun i hi => ?_⟩
    rw [by8_mem l i hi]
    exact h3 _ (List.getElem_mem _)
  · rintro ⟨h1, h2, h3⟩
    refine ⟨by cases l; exact absurd rfl h1; rfl, h2, fun c hc => ?_⟩
    obtain ⟨i, hi, rfl⟩ := List.getElem_of_mem hc
    rw [← by8_mem l i hi]
    exact h3 i hi
theorem wordC_yes {c : Nat} (h : wordC c = true) : 33 ≤ c ∧ c ≤ 126 ∧ c ≠ 35 := by simpa [wordC, and_assoc] using h
theorem wordC_no {c : Nat} (h : wordC c = false) : c < 33 ∨ 126 < c ∨ c = 35 := by simp [wordC] at h; omega
theorem word_false {l : List UInt8} (h : ¬ (l ≠ [] ∧ l.length ≤ 80 ∧ ∀ i, i < l.length → wordC (by8 l i) = true)) : wordL l = false := by
  rw [Bool.eq_false_iff]; intro e; exact h ((wordL_iff l).1 e)
/-- blanks are passed over -/
theorem scan_gap (t : List UInt8) : ∀ (g : List UInt8) (k : Nat) (r : List UInt8) (ws : List (List UInt8)) (cs : List Nat), t.drop k = g ++ r → (∀ c ∈ g, blankC c.toNat = true) → scan t k ws cs = scan t (k + g.length) ws cs := by
  intro g
  induction g with
  | nil => intro k r ws cs _ _; rfl
  | cons c g ih =>
    intro k r ws cs h hg
    have hk : k < t.length := by
      apply Classical.byContradiction; intro hn
      rw [List.drop_eq_nil_of_le (by omega)] at h; cases h
    have hb : by8 t k = c.toNat := by
      have := by8_drop t k 0
      rw [h] at this
      simpa [by8] using this.symm
    rw [scan_blank t k ws cs hk (by rw [hb]; exact hg c (by simp)), ih (k + 1) r ws cs ?_ (fun d hd => hg d (by simp [hd]))]
    · rw [List.length_cons]; congr 1; omega
    · rw [← List.drop_drop, h]; rfl
theorem upTo_word (p : Nat → Bool) (t : List UInt8) (k : Nat) (wd r : List UInt8) (h : t.drop k = wd ++ r) (hk : k ≤ t.length) (hw : ∀ c ∈ wd, p c.toNat = false) (hr : r = [] ∨ ∃ c q, r = c :: q ∧ p c.toNat = true) : upTo p t k = k + wd.length := by
  have hl : wd.length + r.length = t.length - k := by have := congrArg List.length h; simp at this; omega
  have hby : ∀ i, by8 t (k + i) = by8 (wd ++ r) i := fun i => by rw [← by8_drop, h]
  refine upTo_unique p t _ k _ rfl (by omega) (by omega) (fun i h1 h2 => ?_) (fun h1 => ?_)
  · have e : by8 t i = by8 (wd ++ r) (i - k) := by rw [← hby]; congr 1; omega
    have hi : i - k < wd.length := by omega
    rw [e, by8_mem _ _ (by simp; omega), List.getElem_append_left hi]
    exact hw _ (List.getElem_mem _)
  · rcases hr with rfl | ⟨c, q, rfl, hc⟩
    · simp at hl; omega
    · rw [hby]
      have : by8 (wd ++ c :: q) wd.length = c.toNat := by unfold by8; simp [List.getD]
      rw [this]; exact hc
/-- a word is taken -/
theorem scan_one (t : List UInt8) (k : Nat) (wd r : List UInt8) (ws : List (List UInt8)) (cs : List Nat) (h : t.drop k = wd ++ r) (hw : wordL wd = true) (hr : r = [] ∨ ∃ c q, r = c :: q ∧ blankC c.toNat = true) (h20 : ws.length < 20) :
    scan t k ws cs = scan t (k + wd.length) (ws ++ [wd]) (cs ++ [k + 1]) := by
  obtain ⟨hne, h80, hall⟩ := (wordL_iff wd).1 hw
  have hpos : 0 < wd.length := List.length_pos_iff.2 hne
  have hk : k < t.length := by
    apply Classical.byContradiction; intro hn
    rw [List.drop_eq_nil_of_le (by omega)] at h
    exact hne (List.append_eq_nil_iff.1 h.symm).1
  have hmem : ∀ c ∈ wd, wordC c.toNat = true := fun c hc => by
    obtain ⟨i, hi, rfl⟩ := List.getElem_of_mem hc
    rw [← by8_mem wd i hi]; exact hall i hi
  have hbl : ∀ c ∈ wd, blankC c.toNat = false := fun c hc => by have := wordC_yes (hmem c hc); simp [blankC]; omega
  have hbad : ∀ c ∈ wd, badC c.toNat = false := fun c hc => by have := wordC_yes (hmem c hc); simp [badC]; omega
  have hE : upTo blankC t k = k + wd.length := upTo_word blankC t k wd r h (by omega) hbl hr
  have hl : wd.length + r.length = t.length - k := by have := congrArg List.length h; simp at this; omega
  have htd : (t.take (k + wd.length)).drop k = wd := by
    rw [List.drop_take, h]
    rw [show k + wd.length - k = wd.length from by omega, List.take_left']
    rfl
  have hB : upTo badC (t.take (k + wd.length)) k = k + wd.length := by
    refine upTo_word badC _ k wd [] (by rw [htd]; simp) (by rw [List.length_take]; omega) hbad (.inl rfl)
  have h0 : blankC (by8 t k) = false := by
    have : by8 t k = (wd[0]).toNat := by
      have := by8_drop t k 0
      rw [h, by8_mem _ 0 (by simp; omega), List.getElem_append_left hpos] at this
      simpa using this.symm
    rw [this]; exact hbl _ (List.getElem_mem _)
  rw [scan_word t k ws cs hk h0 (by rw [hE]; omega) (by rw [hE, hB]; omega), hE, htd]
/-- gaps and words, and blanks behind -/
def segs (l : List (List UInt8 × List UInt8)) : List UInt8 := l.flatMap fun p => p.1 ++ p.2
theorem scan_segs (t : List UInt8) : ∀ (l : List (List UInt8 × List UInt8)) (k : Nat) (r : List UInt8) (ws : List (List UInt8)) (cs : List Nat), t.drop k = segs l ++ r → k ≤ t.length → (∀ p ∈ l, (∀ c ∈ p.1, blankC c.toNat = true) ∧ wordL p.2 = true) →
    (∀ p ∈ l.drop 1, p.1 ≠ []) → (∀ c ∈ r, blankC c.toNat = true) → ws.length + l.length ≤ 20 → ∃ cs', scan t k ws cs = .ok (ws ++ l.map (·.2)) cs' := by
  intro l
  induction l with
  | nil =>
    intro k r ws cs h hk _ _ hr _
    have h' : t.drop k = r ++ [] := by simpa [segs] using h
    have hl : r.length = t.length - k := by have := congrArg List.length h'; simp at this; omega
    rw [scan_gap t r k [] ws cs h' hr, scan_end _ _ _ _ (by omega)]
    exact ⟨cs, by simp⟩
  | cons p l ih =>
    intro k r ws cs h hk hall hgap hr h20
    obtain ⟨g, wd⟩ := p
    have hp := hall (g, wd) (by simp)
    have hw := ((wordL_iff wd).1 hp.2)
    have h1 : t.drop k = g ++ (wd ++ (segs l ++ r)) := by rw [h]; simp [segs]
    have hlen : g.length + wd.length ≤ t.length - k := by have := congrArg List.length h1; simp at this; omega
    have h2 : t.drop (k + g.length) = wd ++ (segs l ++ r) := by rw [← List.drop_drop, h1, List.drop_left]
    have h3 : t.drop (k + g.length + wd.length) = segs l ++ r := by rw [← List.drop_drop, h2, List.drop_left]
    have hnext : segs l ++ r = [] ∨ ∃ c q, segs l ++ r = c :: q ∧ blankC c.toNat = true := by
      cases l with
      | nil =>
        cases r with
        | nil => exact .inl rfl
        | cons c q => exact .inr ⟨c, q, rfl, hr c (by simp)⟩
      | cons p2 l2 =>
        obtain ⟨g2, w2⟩ := p2
        have hg2 : g2 ≠ [] := hgap (g2, w2) (by simp)
        cases g2 with
        | nil => exact absurd rfl hg2
        | cons c q => exact .inr ⟨c, q ++ (w2 ++ (segs l2 ++ r)), by simp [segs], (hall (c :: q, w2) (by simp)).1 c (by simp)⟩
    rw [scan_gap t g k _ ws cs h1 hp.1, scan_one t _ wd _ ws cs h2 hp.2 hnext (by simp at h20; omega)]
    obtain ⟨cs', hs⟩ := ih (k + g.length + wd.length) r (ws ++ [wd]) (cs ++ [k + g.length + 1]) h3 (by omega) (fun p hp => hall p (by simp [hp])) (fun p hp => hgap p (by simp; exact List.mem_of_mem_drop hp)) hr (by simp at h20 ⊢; omega)
    exact ⟨cs', by rw [hs]; simp⟩
end Go.Proofs.Ytfhicmjfifpjkaa
