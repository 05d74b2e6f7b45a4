/- What a walk is told of a slice of integers that came in, and how its elements are read: no program in sight. -/
import Derived.WalkKit
import Derived.ProofKit
import Derived.OpenShut
import Derived.Lib.Hide
import Derived.Laws.OwnMore
namespace Go.Proofs.YtoebfmhogkjmgaaGreatDoor
open Go.RowKit
/-- a slice of integers that came in: nil, or a row of 'cap' cells, the numbers 'zs', each fitting its kind (the frame's own words) -/
def IsRow (k : IntKind) (w : World) (a : Option Addr) (len cap : Nat) (zs : List Int) : Prop :=
  (a = none ∧ len = 0 ∧ cap = 0 ∧ zs = []) ∨
  ∃ x, a = some x ∧ len ≤ cap ∧ cap ≤ maxLen ∧ zs.length = cap ∧ (∀ i, i < zs.length → w.cell? (x.add i) = some (.int k (zs.getD i 0))) ∧ ∀ n ∈ zs, (Lit.int k n).wf = true
/-- a slice of integers, as the walk meets it: empty (nil or not), or its elements lie behind its address -/
def IntRow (k : IntKind) (w : World) (v : Value) (l : List Int) : Prop :=
  (∃ a cap, v = .slice a 0 cap ∧ l = []) ∨
  ∃ b off cap, v = .slice (some ⟨b, off, none⟩) l.length cap ∧ 0 < l.length ∧ l.length ≤ maxLen ∧ b < w.heap.size ∧ ∀ i, i < l.length → w.cell? ⟨b, off + i, none⟩ = some (.int k (l.getD i 0))
theorem lt_of_cell {w : World} {b o : Nat} {v : Value} (h : w.cell? ⟨b, o, none⟩ = some v) : b < w.heap.size := by
  apply Classical.byContradiction
  intro hn
  have : w.heap[b]? = none := by simp; omega
  simp [World.cell?, this] at h
theorem getD_take (zs : List Int) (n i : Nat) (h : i < n) : (zs.take n).getD i 0 = zs.getD i 0 := by
  simp [List.getD, h]
theorem intRow_of {k : IntKind} {w : World} {a : Option Addr} {len cap : Nat} {zs : List Int} (h : IsRow k w a len cap zs) :
    ∃ l, IntRow k w (.slice a len cap) l ∧ l.length = len ∧ ∀ n ∈ l, (Lit.int k n).wf = true := by
  rcases h with ⟨rfl, rfl, rfl, rfl⟩ | ⟨x, rfl, h1, h2, h3, h4, h5⟩
  · exact ⟨[], .inl ⟨_, _, rfl, rfl⟩, rfl, fun n hn => absurd hn (by simp)⟩
  · refine ⟨zs.take len, ?_, by simp; omega, fun n hn => h5 n (List.mem_of_mem_take hn)⟩
    by_cases h0 : len = 0
    · subst h0; exact .inl ⟨_, _, rfl, by simp⟩
    · right
      obtain ⟨b, off, rfl, hc⟩ := ints_at h4 (by omega)
      have hl : (zs.take len).length = len := by simp; omega
      have hc' : ∀ i, i < len → w.cell? ⟨b, off + i, none⟩ = some (.int k ((zs.take len).getD i 0)) := fun i hi => by
        rw [getD_take zs len i hi]; exact hc i (by omega)
      refine ⟨b, off, cap, by rw [hl], by omega, by omega, lt_of_cell (hc' 0 (by omega)), ?_⟩
      rw [hl]; exact hc'
theorem IntRow.below {k : IntKind} {w w' : World} {v : Value} {l : List Int} (h : IntRow k w v l) (hb : Below w.heap.size w w') : IntRow k w' v l := by
  rcases h with h | ⟨b, off, cap, h1, h2, h3, h4, h5⟩
  · exact .inl h
  · exact .inr ⟨b, off, cap, h1, h2, h3, Nat.lt_of_lt_of_le h4 hb.size, fun i hi => by rw [hb.cell (p := ⟨b, off + i, none⟩) h4]; exact h5 i hi⟩
theorem IntRow.len {k : IntKind} {w : World} {v : Value} {l : List Int} (h : IntRow k w v l) : l.length ≤ maxLen := by
  rcases h with ⟨_, _, _, rfl⟩ | ⟨_, _, _, _, _, h, _⟩
  · simp
  · exact h
theorem intRow_shape {k : IntKind} {w : World} {v : Value} {l : List Int} (h : IntRow k w v l) : ∃ a cap, v = .slice a l.length cap := by
  rcases h with ⟨a, cap, rfl, rfl⟩ | ⟨b, off, cap, rfl, _⟩
  · exact ⟨_, _, rfl⟩
  · exact ⟨_, _, rfl⟩
/-- of a slice of the call's own -/
theorem intRow_own {k : IntKind} {w : World} {base : Nat} {e : TypeId} {v : Value} {l : List Int} (h : w.ownsRow base e 1 v l.length (l.map (Value.int k))) : IntRow k w v l := by
  have h0 := h
  obtain ⟨hl, h⟩ := h
  rcases h with ⟨rfl, hn⟩ | ⟨g, cap, cur, rfl, hg⟩
  · exact .inl ⟨_, _, rfl, List.length_eq_zero_iff.1 hn⟩
  · by_cases hz : l.length = 0
    · rw [hz]; exact .inl ⟨_, _, rfl, List.length_eq_zero_iff.1 hz⟩
    · have hc : ∀ i, i < l.length → w.cell? ⟨g, 0 + i, none⟩ = some (.int k (l.getD i 0)) := fun i hi => by
        rw [Nat.zero_add, h0.cellAt i (by omega)]
        simp [hi]
      exact .inr ⟨g, 0, cap, rfl, by omega, Nat.le_trans hg.2.2.1 hg.2.2.2.1, lt_of_cell (hc 0 (by omega)), hc⟩
end Go.Proofs.YtoebfmhogkjmgaaGreatDoor
