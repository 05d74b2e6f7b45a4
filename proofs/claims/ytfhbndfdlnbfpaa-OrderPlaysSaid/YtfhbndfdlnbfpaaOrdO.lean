/- The contract of the walk of New. -/
import Derived.Test.YtfhbndfdlnbfpaaOrdN
namespace Go.Proofs.Ytfhbndfdlnbfpaa
open Go.RowKit
set_option linter.unusedVariables false
theorem ownsRow_base {w : World} {a b : Nat} {e : TypeId} {size : Nat} {v : Value} {n : Nat} {xs : List Value} (h : w.ownsRow a e size v n xs) (hab : b ≤ a) : w.ownsRow b e size v n xs := by
  obtain ⟨hl, h⟩ := h
  refine ⟨hl, ?_⟩
  rcases h with h | ⟨g, cap, cur, h1, h2, h3⟩
  · exact .inl h
  · exact .inr ⟨g, cap, cur, h1, Nat.le_trans hab h2, h3⟩
/-- the places of a heap into which 1 .. k have come -/
def plK (m k : Nat) : List Int := (List.range m).map fun v => if v = 0 then -1 else if v ≤ k then (v : Int) - 1 else 0
theorem plK_len (m k : Nat) : (plK m k).length = m := by simp [plK]
theorem plK_get (m k v : Nat) (h : v < m) : (plK m k)[v]? = some (if v = 0 then -1 else if v ≤ k then (v : Int) - 1 else 0) := by simp [plK, h]
theorem plK_zero (m : Nat) : plK m 0 = (List.replicate m (0 : Int)).set 0 (-1) := by
  apply List.ext_getElem?
  intro v
  by_cases h : v < m
  · rw [plK_get _ _ _ h]
    by_cases h0 : v = 0
    · subst h0; simp [h]
    · simp [h0, Ne.symm h0, h]
  · simp [plK, h]
theorem plK_succ (m k : Nat) (hk : k + 1 < m) : plK m (k + 1) = (plK m k).set (k + 1) (k : Int) := by
  apply List.ext_getElem?
  intro v
  by_cases h : v < m
  · rw [plK_get _ _ _ h]
    by_cases h0 : v = k + 1
    · subst h0
      rw [List.getElem?_set_self (by rw [plK_len]; exact h), if_neg (by omega), if_pos (Nat.le_refl _)]
      simp
    · rw [List.getElem?_set_ne (Ne.symm h0), plK_get _ _ _ h]
      by_cases h1 : v = 0
      · simp [h1]
      · by_cases h2 : v ≤ k
        · rw [if_neg h1, if_neg h1, if_pos (by omega), if_pos h2]
        · rw [if_neg h1, if_neg h1, if_neg (by omega), if_neg h2]
  · rw [List.getElem?_eq_none (by rw [plK_len]; omega), List.getElem?_eq_none (by rw [List.length_set, plK_len]; omega)]
def upto (k : Nat) : List Nat := (List.range k).map (· + 1)
theorem upto_len (k : Nat) : (upto k).length = k := by simp [upto]
theorem upto_get (k i : Nat) (h : i < k) : (upto k).getD i 0 = i + 1 := by simp [upto, h]
theorem upto_succ (k : Nat) : upto (k + 1) = upto k ++ [k + 1] := by simp [upto, List.range_succ]
theorem mem_upto {k v : Nat} : v ∈ upto k ↔ 1 ≤ v ∧ v ≤ k := by
  simp only [upto, List.mem_map, List.mem_range]
  constructor
  · rintro ⟨a, ha, rfl⟩; omega
  · intro h; exact ⟨v - 1, by omega, by omega⟩
theorem upto_nodup (k : Nat) : (upto k).Nodup := by
  unfold upto
  rw [List.nodup_iff_pairwise_ne, List.pairwise_map]
  exact List.nodup_range.imp (fun h => by omega)
theorem placed_upto (n : Nat) : Placed (n + 1) (upto n) (plK (n + 1) n) := by
  refine ⟨plK_len _ _, fun i hi => ?_, fun v hv hn => ?_⟩
  · rw [upto_len] at hi
    rw [upto_get _ _ hi, plK_get _ _ _ (by omega), if_neg (by omega), if_pos (by omega)]
    simp
  · have : v = 0 := by
      apply Classical.byContradiction
      intro h0
      exact hn (mem_upto.2 ⟨by omega, by omega⟩)
    rw [plK_get _ _ _ hv, if_pos this]
theorem heap_upto (m n : Nat) : HeapFrom (List.replicate m 0) (upto n) 0 := by
  intro j j0 jl _
  rw [upto_len] at jl
  rw [upto_get _ _ jl, upto_get _ _ (by omega)]
  unfold ahd
  have e : ∀ v, (List.replicate m (0 : Int)).getD v 0 = 0 := by
    intro v
    by_cases h : v < m <;> simp [h]
  rw [e, e]
  omega
/-- a heap of n variables in the making: 1 .. k are in -/
structure NewRel (w : World) (S P m k : Nat) (wr : World) (gv : Value) : Prop where
  c0 : wr.cell? ⟨w.heap.size + 2, 0, none⟩ = some (.slice (some ⟨S, 0, none⟩) m m)
  c1 : wr.cell? ⟨w.heap.size + 2, 1, none⟩ = some gv
  c2 : wr.cell? ⟨w.heap.size + 2, 2, none⟩ = some (.slice (some ⟨P, 0, none⟩) m m)
  fr : wr.frozen? ⟨w.heap.size + 2, 1, none⟩ = false
  rS : wr.ownsRow 0 3 1 (.slice (some ⟨S, 0, none⟩) m m) m (ints (List.replicate m 0))
  rG : wr.ownsRow (w.heap.size + 3) 3 1 gv k (nats (upto k))
  rP : wr.ownsRow 0 3 1 (.slice (some ⟨P, 0, none⟩) m m) m (ints (plK m k))
  be : Below w.heap.size w wr
  sz : w.heap.size + 3 ≤ wr.heap.size
theorem NewRel.gt {w : World} {S P m k : Nat} {wr : World} {gv : Value} (h : NewRel w S P m k wr gv) (g : Nat) (hg : gv.ownBlock = some g) : w.heap.size + 3 ≤ g := (h.rG.lt g hg).1
/-- the loop's first store -/
theorem NewRel.store {w : World} {S P m k : Nat} {wr : World} {gv : Value} (h : NewRel w S P m k wr gv) (hSP : S ≠ P) (hS : S < w.heap.size + 3 ∧ S ≠ w.heap.size + 2) (hP : w.heap.size ≤ P) (hP2 : P < w.heap.size + 2) (hk : k + 1 < m) {w2 : World} {gv2 : Value}
    (hg : (((wr.setCell ⟨P, k + 1, none⟩ (.int .i64 k)).alloc (.cells #[.int .i64 (k + 1)] 3))).grownBy w2 gv.ownBlock)
    (ho : w2.ownsRow (w.heap.size + 3) 3 1 gv2 (k + 1) (nats (upto k) ++ [.int .i64 (k + 1)])) :
    NewRel w S P m (k + 1) (w2.setCell ⟨w.heap.size + 2, 1, none⟩ gv2) gv2 ∧ w2.cell? ⟨w.heap.size + 2, 1, none⟩ = some gv ∧ w2.frozen? ⟨w.heap.size + 2, 1, none⟩ = false := by
  have e0 : (wr.setCell ⟨P, k + 1, none⟩ (.int .i64 k)).heap.size = wr.heap.size := by simp [World.setCell]
  have hb : ∀ b, b < w.heap.size + 3 → w2.heap[b]? = (wr.setCell ⟨P, k + 1, none⟩ (.int .i64 k)).heap[b]? := by
    intro b hb
    have hsz := h.sz
    rw [hg.block b (by simp [World.alloc, e0]; omega) (fun e => by have := h.gt b e.symm; omega)]
    simp only [World.alloc, Array.getElem?_push]
    rw [if_neg (by rw [e0]; omega)]
  have hbH := hb (w.heap.size + 2) (by omega)
  have cH : ∀ o, w2.cell? ⟨w.heap.size + 2, o, none⟩ = wr.cell? ⟨w.heap.size + 2, o, none⟩ := fun o => by
    rw [World.cell?_of_block (w := wr.setCell ⟨P, k + 1, none⟩ (.int .i64 k)) (a := ⟨w.heap.size + 2, o, none⟩) hbH, cell_ne (addr_ne (by omega))]
  have fH : w2.frozen? ⟨w.heap.size + 2, 1, none⟩ = false := by
    rw [World.frozen?_of_block (w := wr.setCell ⟨P, k + 1, none⟩ (.int .i64 k)) (a := ⟨w.heap.size + 2, 1, none⟩) hbH, World.frozen?_setCell]; exact h.fr
  refine ⟨⟨?_, ?_, ?_, ?_, ?_, ?_, ?_, ?_, ?_⟩, by rw [cH]; exact h.c1, fH⟩
  · rw [cell_ne (addr_ne' (by omega)), cH]; exact h.c0
  · exact cell_eq (by rw [cH]; exact h.c1)
  · rw [cell_ne (addr_ne' (by omega)), cH]; exact h.c2
  · rw [World.frozen?_setCell]; exact fH
  · refine row_ne (row_of_block (w := wr.setCell ⟨P, k + 1, none⟩ (.int .i64 k)) (row_ne h.rS (by simpa [Value.ownBlock] using hSP) _) (fun g hg' => ?_)) (by simpa [Value.ownBlock] using hS.2) _
    cases hg'; exact hb S hS.1
  · rw [upto_succ]
    have : nats (upto k ++ [k + 1]) = nats (upto k) ++ [.int .i64 (k + 1)] := by simp [nats]
    rw [this]
    exact row_ne ho (fun e => by have := (ho.lt _ e).1; simp at this) _
  · have r := (h.rP.stored (k + 1) (.int .i64 k)).1
    rw [ints_set, ← plK_succ m k hk] at r
    refine row_ne (row_of_block r (fun g hg' => ?_)) (by simp [Value.ownBlock]; omega) _
    cases hg'; exact hb P (by omega)
  · refine Below.setCell ?_ (by simp) _
    have b1 : Below w.heap.size w (wr.setCell ⟨P, k + 1, none⟩ (.int .i64 k)) := h.be.setCell hP _
    exact (b1.alloc (by rw [e0]; have := h.sz; omega) _).grown hg (by simp [World.alloc, e0]; have := h.sz; omega) (fun g hg' => by have := h.gt g hg'; omega)
  · have := hg.size
    simp [World.alloc, e0] at this
    simp [World.setCell]
    have := h.sz
    omega
end Go.Proofs.Ytfhbndfdlnbfpaa
