/- What a walk is told of a slice whose elements take one cell each: no program in sight. -/
import Derived.Test.YtoebfmhogkjmgaaGreatDoorRow
namespace Go.Proofs.YtoebfmhogkjmgaaGreatDoor
open Go.RowKit
/-- a slice of values of one cell each: empty (nil or not), or they lie behind its address -/
def ValRow (w : World) (v : Value) (vs : List Value) : Prop :=
  (∃ a cap, v = .slice a 0 cap ∧ vs = []) ∨
  ∃ b off cap, v = .slice (some ⟨b, off, none⟩) vs.length cap ∧ (0 < vs.length ∧ vs.length ≤ cap) ∧ cap ≤ maxLen ∧ b < w.heap.size ∧ ∀ i, i < vs.length → w.cell? ⟨b, off + i, none⟩ = vs[i]?
theorem ValRow.below {w w' : World} {v : Value} {l : List Value} (h : ValRow w v l) (hb : Below w.heap.size w w') : ValRow w' v l := by
  rcases h with h | ⟨b, off, cap, h1, h2, h3, h4, h5⟩
  · exact .inl h
  · exact .inr ⟨b, off, cap, h1, h2, h3, Nat.lt_of_lt_of_le h4 hb.size, fun i hi => by rw [hb.cell (p := ⟨b, off + i, none⟩) h4]; exact h5 i hi⟩
theorem ValRow.len {w : World} {v : Value} {l : List Value} (h : ValRow w v l) : l.length ≤ maxLen := by
  rcases h with ⟨_, _, _, rfl⟩ | ⟨_, _, _, _, h1, h, _⟩
  · simp
  · exact Nat.le_trans h1.2 h
theorem ValRow.shape {w : World} {v : Value} {l : List Value} (h : ValRow w v l) : ∃ a cap, v = .slice a l.length cap := by
  rcases h with ⟨a, cap, rfl, rfl⟩ | ⟨b, off, cap, rfl, _⟩
  · exact ⟨_, _, rfl⟩
  · exact ⟨_, _, rfl⟩
theorem valRow_own {w : World} {base : Nat} {e : TypeId} {v : Value} {l : List Value} {n : Nat} (h : w.ownsRow base e 1 v n l) : ValRow w v l := by
  have h0 := h
  obtain ⟨hl, h⟩ := h
  obtain rfl : n = l.length := by omega
  rcases h with ⟨rfl, hn⟩ | ⟨g, cap, cur, rfl, hg⟩
  · exact .inl ⟨_, _, rfl, List.length_eq_zero_iff.1 hn⟩
  · by_cases hz : l.length = 0
    · rw [hz]; exact .inl ⟨_, _, rfl, List.length_eq_zero_iff.1 hz⟩
    · have hc : ∀ i, i < l.length → w.cell? ⟨g, 0 + i, none⟩ = l[i]? := fun i hi => by
        rw [Nat.zero_add, h0.cellAt i (by omega)]
      exact .inr ⟨g, 0, cap, rfl, ⟨by omega, hg.2.2.1⟩, hg.2.2.2.1, lt_of_cell (v := l[0]'(by omega)) (by rw [hc 0 (by omega)]; simp), hc⟩
/-- an owned row stays owned where only new blocks came -/
theorem ownsRow_below {w w' : World} {base : Nat} {e : TypeId} {size : Nat} {v : Value} {n : Nat} {xs : List Value} (h : w.ownsRow base e size v n xs) (hb : Below w.heap.size w w') : w'.ownsRow base e size v n xs := by
  obtain ⟨hl, h⟩ := h
  refine ⟨hl, ?_⟩
  rcases h with h | ⟨g, cap, cur, h1, h2, h3, h4⟩
  · exact .inl h
  · refine .inr ⟨g, cap, cur, h1, h2, ?_, h4⟩
    have hlt : g < w.heap.size := by
      apply Classical.byContradiction
      intro hn
      have : w.heap[g]? = none := by simp; omega
      rw [this] at h3; cases h3
    rw [hb.block g hlt]; exact h3
/-- a row that was laid by a literal: a block of its own -/
theorem valRow_lit (w : World) (A : Array Value) (T : TypeId) (n : Nat) (hn : A.size = n) (hp : 0 < n) (hm : n ≤ maxLen) : ValRow (w.alloc (.cells A T)) (.slice (some ⟨w.heap.size, 0, none⟩) n n) A.toList := by
  subst hn
  refine .inr ⟨w.heap.size, 0, A.size, rfl, ⟨by simpa using hp, by simp⟩, hm, by simp, fun i hi => ?_⟩
  simp [go_sem]
theorem valRow_cells {w : World} {a : Option Addr} {n cap : Nat} {l : List Value} (h : ValRow w (.slice a n cap) l) (j : Nat) (hj : j < l.length) :
    ∃ b off, a = some ⟨b, off, none⟩ ∧ b < w.heap.size ∧ ∀ i, i < l.length → w.cell? ⟨b, off + i, none⟩ = l[i]? := by
  rcases h with ⟨_, _, _, rfl⟩ | ⟨b, off, cap', hv, _, _, hbw, hc⟩
  · simp at hj
  · simp only [Value.slice.injEq] at hv
    exact ⟨b, off, hv.1, hbw, hc⟩
end Go.Proofs.YtoebfmhogkjmgaaGreatDoor
