/- The contract of the walk of the heap's swap. -/
import Derived.Test.YtfhbndfdlnbfpaaOrdA
import Derived.BigRegion
import Derived.RegionTactic
namespace Go.Proofs.Ytfhbndfdlnbfpaa
open Go.RowKit
set_option linter.unusedVariables false
/-- the world behind a swap, but for its draws -/
def swapW (w : World) (G P i k vi vk : Nat) : World :=
  (((w.setCell ⟨G, i, none⟩ (.int .i64 vk)).setCell ⟨G, k, none⟩ (.int .i64 vi)).setCell ⟨P, vk, none⟩ (.int .i64 i)).setCell ⟨P, vi, none⟩ (.int .i64 k)
theorem addr_ne {b c o p : Nat} (h : b ≠ c) : (⟨b, o, none⟩ : Addr) ≠ ⟨c, p, none⟩ := by intro e; injection e with e1; exact h e1
theorem addr_ne' {b c o p : Nat} (h : o ≠ p) : (⟨b, o, none⟩ : Addr) ≠ ⟨c, p, none⟩ := by intro e; injection e with _ e1; exact h e1
theorem cell_ne {w : World} {a b : Addr} {v : Value} (h : a ≠ b) : (w.setCell a v).cell? b = w.cell? b := World.cell?_setCell_other _ _ _ _ h
theorem cell_eq {w : World} {a : Addr} {v u : Value} (h : w.cell? a = some u) : (w.setCell a v).cell? a = some v := World.cell?_setCell_same _ _ _ h
theorem int_nat (a : Nat) : ((a : Int)).toNat = a := by omega
set_option maxRecDepth 1000000 in
set_option maxHeartbeats 3200000 in
theorem swap_ne (H G P n cg m cp : Nat) (i k vi vk : Nat) (w : World) (h1 : w.cell? ⟨H, 1, none⟩ = some (.slice (some ⟨G, 0, none⟩) n cg)) (h2 : w.cell? ⟨H, 2, none⟩ = some (.slice (some ⟨P, 0, none⟩) m cp))
    (hn : n ≤ 1000) (hm : m ≤ 1000) (hi : i < n) (hk : k < n) (hvi : vi < m) (hvk : vk < m) (hne : i ≠ k) (hGH : G ≠ H) (hPH : P ≠ H) (hGP : G ≠ P)
    (ci : w.cell? ⟨G, i, none⟩ = some (.int .i64 vi)) (ck : w.cell? ⟨G, k, none⟩ = some (.int .i64 vk)) (fg : ∀ j, w.frozen? ⟨G, j, none⟩ = false)
    (fp : ∀ j, w.frozen? ⟨P, j, none⟩ = false) (cp1 : ∃ u, w.cell? ⟨P, vi, none⟩ = some u) (cp2 : ∃ u, w.cell? ⟨P, vk, none⟩ = some u) :
    Calls Try.prog 27 #[.pointer (some ⟨H, 0, none⟩), .int .i64 i, .int .i64 k] w fun e w' => e = .returned (.tuple #[]) ∧ ∃ q, w' = (swapW w G P i k vi vk).drewN q := by
  have a0 : (0 : Int) ≤ (i : Int) := by omega
  have a1 : (i : Int) < (n : Int) := by omega
  have b0 : (0 : Int) ≤ (k : Int) := by omega
  have b1 : (k : Int) < (n : Int) := by omega
  have c0 : (0 : Int) ≤ (vi : Int) := by omega
  have c1 : (vi : Int) < (m : Int) := by omega
  have d0 : (0 : Int) ≤ (vk : Int) := by omega
  have d1 : (vk : Int) < (m : Int) := by omega
  obtain ⟨u1, cp1⟩ := cp1
  obtain ⟨u2, cp2⟩ := cp2
  have fi := fg i
  have fk := fg k
  go_enter Try.func27, Try.ntmps27
  go_wp2_with fail
  go_region
  generalize hw1 : ((w.setCell ⟨G, i, none⟩ (.int .i64 vk)).setCell ⟨G, k, none⟩ (.int .i64 vi)).drew = w1
  have e1 : w1.cell? ⟨H, 1, none⟩ = some (.slice (some ⟨G, 0, none⟩) n cg) := by
    rw [← hw1, World.cell?_drew, cell_ne (addr_ne hGH), cell_ne (addr_ne hGH)]; exact h1
  have e2 : w1.cell? ⟨H, 2, none⟩ = some (.slice (some ⟨P, 0, none⟩) m cp) := by
    rw [← hw1, World.cell?_drew, cell_ne (addr_ne hGH), cell_ne (addr_ne hGH)]; exact h2
  have e3 : w1.cell? ⟨G, i, none⟩ = some (.int .i64 vk) := by
    rw [← hw1, World.cell?_drew, cell_ne (addr_ne' (Ne.symm hne))]; exact cell_eq ci
  have e4 : w1.cell? ⟨G, k, none⟩ = some (.int .i64 vi) := by
    rw [← hw1, World.cell?_drew]; exact cell_eq (by rw [cell_ne (addr_ne' hne)]; exact ck)
  have e5 : w1.frozen? ⟨P, vk, none⟩ = false := by rw [← hw1]; simpa using fp vk
  have e6 : w1.frozen? ⟨P, vi, none⟩ = false := by rw [← hw1]; simpa using fp vi
  have e7 : w1.cell? ⟨P, vk, none⟩ = some u2 := by
    rw [← hw1, World.cell?_drew, cell_ne (addr_ne hGP), cell_ne (addr_ne hGP)]; exact cp2
  have e8 : w1.cell? ⟨P, vi, none⟩ = some u1 := by
    rw [← hw1, World.cell?_drew, cell_ne (addr_ne hGP), cell_ne (addr_ne hGP)]; exact cp1
  clear h1 h2 ci ck cp1 cp2 fg fp fi fk
  go_wp2_with fail
  go_region
  generalize hw2 : (w1.setCell ⟨P, vk, none⟩ (.int .i64 i)).drew = w2
  have g1 : w2.cell? ⟨H, 1, none⟩ = some (.slice (some ⟨G, 0, none⟩) n cg) := by
    rw [← hw2, World.cell?_drew, cell_ne (addr_ne hPH)]; exact e1
  have g2 : w2.cell? ⟨H, 2, none⟩ = some (.slice (some ⟨P, 0, none⟩) m cp) := by
    rw [← hw2, World.cell?_drew, cell_ne (addr_ne hPH)]; exact e2
  have g4 : w2.cell? ⟨G, k, none⟩ = some (.int .i64 vi) := by
    rw [← hw2, World.cell?_drew, cell_ne (addr_ne (Ne.symm hGP))]; exact e4
  have g6 : w2.frozen? ⟨P, vi, none⟩ = false := by rw [← hw2]; simpa using e6
  obtain ⟨u3, g8⟩ : ∃ u, w2.cell? ⟨P, vi, none⟩ = some u := by
    rw [← hw2, World.cell?_drew]; exact cell?_setCell_some e8
  clear e1 e2 e3 e4 e5 e6 e7 e8
  go_wp2_with fail
  go_region
  go_wp2_with fail
  go_end0
  refine ⟨rfl, 3, ?_⟩
  rw [← hw2, ← hw1]
  rfl
set_option maxRecDepth 1000000 in
set_option maxHeartbeats 3200000 in
theorem swap_eq (H G P n cg m cp : Nat) (i vi : Nat) (w : World) (h1 : w.cell? ⟨H, 1, none⟩ = some (.slice (some ⟨G, 0, none⟩) n cg)) (h2 : w.cell? ⟨H, 2, none⟩ = some (.slice (some ⟨P, 0, none⟩) m cp))
    (hn : n ≤ 1000) (hm : m ≤ 1000) (hi : i < n) (hvi : vi < m) (hGH : G ≠ H) (hPH : P ≠ H) (hGP : G ≠ P)
    (ci : w.cell? ⟨G, i, none⟩ = some (.int .i64 vi)) (fg : ∀ j, w.frozen? ⟨G, j, none⟩ = false)
    (fp : ∀ j, w.frozen? ⟨P, j, none⟩ = false) (cp1 : ∃ u, w.cell? ⟨P, vi, none⟩ = some u) :
    Calls Try.prog 27 #[.pointer (some ⟨H, 0, none⟩), .int .i64 i, .int .i64 i] w fun e w' => e = .returned (.tuple #[]) ∧ ∃ q, w' = (swapW w G P i i vi vi).drewN q := by
  have a0 : (0 : Int) ≤ (i : Int) := by omega
  have a1 : (i : Int) < (n : Int) := by omega
  have c0 : (0 : Int) ≤ (vi : Int) := by omega
  have c1 : (vi : Int) < (m : Int) := by omega
  obtain ⟨u1, cp1⟩ := cp1
  have fi := fg i
  go_enter Try.func27, Try.ntmps27
  go_wp2_with fail
  go_region
  generalize hw1 : ((w.setCell ⟨G, i, none⟩ (.int .i64 vi)).setCell ⟨G, i, none⟩ (.int .i64 vi)).drew = w1
  have e1 : w1.cell? ⟨H, 1, none⟩ = some (.slice (some ⟨G, 0, none⟩) n cg) := by
    rw [← hw1, World.cell?_drew, cell_ne (addr_ne hGH), cell_ne (addr_ne hGH)]; exact h1
  have e2 : w1.cell? ⟨H, 2, none⟩ = some (.slice (some ⟨P, 0, none⟩) m cp) := by
    rw [← hw1, World.cell?_drew, cell_ne (addr_ne hGH), cell_ne (addr_ne hGH)]; exact h2
  have e4 : w1.cell? ⟨G, i, none⟩ = some (.int .i64 vi) := by
    rw [← hw1, World.cell?_drew]; exact cell_eq (cell_eq ci)
  have e6 : w1.frozen? ⟨P, vi, none⟩ = false := by rw [← hw1]; simpa using fp vi
  have e8 : w1.cell? ⟨P, vi, none⟩ = some u1 := by
    rw [← hw1, World.cell?_drew, cell_ne (addr_ne hGP), cell_ne (addr_ne hGP)]; exact cp1
  clear h1 h2 ci cp1 fg fp fi
  go_wp2_with fail
  go_region
  generalize hw2 : (w1.setCell ⟨P, vi, none⟩ (.int .i64 i)).drew = w2
  have g1 : w2.cell? ⟨H, 1, none⟩ = some (.slice (some ⟨G, 0, none⟩) n cg) := by
    rw [← hw2, World.cell?_drew, cell_ne (addr_ne hPH)]; exact e1
  have g2 : w2.cell? ⟨H, 2, none⟩ = some (.slice (some ⟨P, 0, none⟩) m cp) := by
    rw [← hw2, World.cell?_drew, cell_ne (addr_ne hPH)]; exact e2
  have g4 : w2.cell? ⟨G, i, none⟩ = some (.int .i64 vi) := by
    rw [← hw2, World.cell?_drew, cell_ne (addr_ne (Ne.symm hGP))]; exact e4
  have g6 : w2.frozen? ⟨P, vi, none⟩ = false := by rw [← hw2]; simpa using e6
  obtain ⟨u3, g8⟩ : ∃ u, w2.cell? ⟨P, vi, none⟩ = some u := by
    rw [← hw2, World.cell?_drew]; exact cell?_setCell_some e8
  clear e1 e2 e4 e6 e8
  go_wp2_with fail
  go_region
  go_wp2_with fail
  go_end0
  refine ⟨rfl, 3, ?_⟩
  rw [← hw2, ← hw1]
  rfl
end Go.Proofs.Ytfhbndfdlnbfpaa
