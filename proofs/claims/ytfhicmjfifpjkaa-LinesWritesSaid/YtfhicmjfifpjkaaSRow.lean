/- What a walk is told of a slice of strings that came in: no program in sight. -/
import Derived.Test.YtfhicmjfifpjkaaVRow
import Derived.SliceStrings
namespace Go.Proofs.Ytfhicmjfifpjkaa
open Go.RowKit
/-- a slice of strings that came in: nil, or a row of 'cap' cells, the strings 'zs' -/
def IsStrs (w : World) (a : Option Addr) (len cap : Nat) (zs : List ByteArray) : Prop :=
  (a = none ∧ len = 0 ∧ cap = 0 ∧ zs = []) ∨
  ∃ x, a = some x ∧ len ≤ cap ∧ cap ≤ maxLen ∧ zs.length = cap ∧ (∀ i, i < zs.length → w.cell? (x.add i) = some (.string (zs.getD i ByteArray.empty))) ∧ ∀ s ∈ zs, s.size ≤ maxLen
theorem strs_at {w : World} {a : Addr} {zs : List ByteArray} (h : ∀ i, i < zs.length → w.cell? (a.add i) = some (.string (zs.getD i ByteArray.empty))) (hp : 0 < zs.length) :
    ∃ b off, a = ⟨b, off, none⟩ ∧ ∀ i, i < zs.length → w.cell? ⟨b, off + i, none⟩ = some (.string (zs.getD i ByteArray.empty)) := by
  obtain ⟨b, off, spot⟩ := a
  have h0 := h 0 hp
  cases spot with
  | none => exact ⟨b, off, rfl, fun i hi => by have := h i hi; rwa [Addr.add_lit] at this⟩
  | some k =>
    simp only [Addr.add, World.cell?] at h0
    split at h0 <;> simp at h0
theorem strs_row {w : World} {a : Option Addr} {len cap : Nat} {zs : List ByteArray} (h : IsStrs w a len cap zs) :
    ∃ ls : List (List UInt8), ls.length = len ∧ ValRow w (.slice a len cap) (ls.map fun l => Value.string ⟨l.toArray⟩) ∧ ∀ l ∈ ls, l.length ≤ maxLen := by
  rcases h with ⟨rfl, rfl, rfl, rfl⟩ | ⟨x, rfl, h1, h2, h3, h4, h5⟩
  · exact ⟨[], rfl, .inl ⟨_, _, rfl, rfl⟩, fun l hl => absurd hl (by simp)⟩
  · refine ⟨(zs.take len).map fun s => s.data.toList, by simp; omega, ?_, ?_⟩
    · by_cases h0 : len = 0
      · subst h0; exact .inl ⟨_, _, rfl, by simp⟩
      · obtain ⟨b, off, rfl, hc⟩ := strs_at h4 (by omega)
        have hl : (((zs.take len).map fun s => s.data.toList).map fun l : List UInt8 => Value.string ⟨l.toArray⟩).length = len := by simp; omega
        have hc' : ∀ i, i < len → w.cell? ⟨b, off + i, none⟩ = (((zs.take len).map fun s => s.data.toList).map fun l : List UInt8 => Value.string ⟨l.toArray⟩)[i]? := fun i hi => by
          rw [hc i (by omega)]
          have hi2 : i < zs.length := by omega
          simp [hi, hi2, List.getD]
        refine .inr ⟨b, off, cap, by rw [hl], ⟨by omega, by omega⟩, h2, lt_of_cell (hc 0 (by omega)), ?_⟩
        rw [hl]; exact hc'
    · intro l hl
      obtain ⟨s, hs, rfl⟩ := List.mem_map.1 hl
      exact h5 s (List.mem_of_mem_take hs)
end Go.Proofs.Ytfhicmjfifpjkaa
