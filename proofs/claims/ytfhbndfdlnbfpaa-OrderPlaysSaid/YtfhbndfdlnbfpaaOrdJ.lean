/- The contract of the walk of Push of a variable that is out. -/
import Derived.Test.YtfhbndfdlnbfpaaOrdI
namespace Go.Proofs.Ytfhbndfdlnbfpaa
open Go.RowKit
set_option linter.unusedVariables false
theorem nodup_len : ∀ (m : Nat) (l : List Nat), l.Nodup → (∀ v ∈ l, v < m) → l.length ≤ m := by
  intro m
  induction m with
  | zero => intro l _ h; cases l with
    | nil => simp
    | cons a t => exact absurd (h a (by simp)) (by omega)
  | succ m ih =>
    intro l hn h
    have h1 := ih (l.erase m) (hn.erase m) (fun v hv => by
      have hm := List.mem_of_mem_erase hv
      have := h v hm
      have hne : v ≠ m := fun e => by subst e; exact absurd hv (List.Nodup.not_mem_erase hn)
      omega)
    have h2 := List.length_erase (a := m) (l := l)
    split at h2 <;> omega
theorem Placed.push {m : Nat} {hp : List Nat} {v : Nat} {pl : List Int} (h : Placed m hp pl) (hv : v < m) (hnv : v ∉ hp) : Placed m (hp ++ [v]) (pl.set v hp.length) := by
  refine ⟨by simp [h.len], fun i hi => ?_, fun u hu hnu => ?_⟩
  · by_cases e : i < hp.length
    · have e1 : (hp ++ [v]).getD i 0 = hp.getD i 0 := by simp [List.getElem?_append_left e]
      have n1 : v ≠ hp.getD i 0 := fun e' => hnv (e' ▸ getD_mem _ _ e)
      rw [e1, List.getElem?_set_ne n1]
      exact h.at_ i e
    · obtain rfl : i = hp.length := by simp at hi; omega
      have e1 : (hp ++ [v]).getD hp.length 0 = v := by simp
      rw [e1, List.getElem?_set_self (by rw [h.len]; exact hv)]
  · have n1 : v ≠ u := fun e => hnu (by simp [e])
    rw [List.getElem?_set_ne n1]
    exact h.out u hu (fun hx => hnu (by simp [hx]))
theorem HeapAt.push {w w2 : World} {H S P G cg n : Nat} {sc : List Int} {hp : List Nat} {v : Nat} {pl : List Int} (h : HeapAt w H S P (.slice (some ⟨G, 0, none⟩) n cg) sc hp pl) (h1 : 1 ≤ v) (h2 : v < sc.length) (hnv : v ∉ hp)
    (hk : Kept [G] (w.setCell ⟨P, v, none⟩ (.int .i64 hp.length)) w2) (hr : w2.ownsRow 0 3 1 (.slice (some ⟨G, 0, none⟩) (n + 1) cg) (n + 1) (nats hp ++ [.int .i64 v])) :
    HeapAt (w2.setCell ⟨H, 1, none⟩ (.slice (some ⟨G, 0, none⟩) (n + 1) cg)) H S P (.slice (some ⟨G, 0, none⟩) (n + 1) cg) sc (hp ++ [v]) (pl.set v hp.length) ∧
    Kept [H, S, P, G] w (w2.setCell ⟨H, 1, none⟩ (.slice (some ⟨G, 0, none⟩) (n + 1) cg)) := by
  have hn := heap_n h
  subst hn
  have gH : G ≠ H := fun e => h.GH (by rw [← e]; rfl)
  have gS : G ≠ S := fun e => h.GS (by rw [← e]; rfl)
  have gP : G ≠ P := fun e => h.GP (by rw [← e]; rfl)
  have k0 := (Kept.refl [H, S, P, G] w).setCell (p := ⟨P, v, none⟩) (by simp) (.int .i64 hp.length)
  have sz : (w.setCell ⟨P, v, none⟩ (.int .i64 hp.length)).heap.size = w.heap.size := by simp [World.setCell]
  have bH := hk.block H (by rw [sz]; exact h.ltH) (by simp [gH.symm])
  have bS := hk.block S (by rw [sz]; exact h.ltS) (by simp [gS.symm])
  have bP := hk.block P (by rw [sz]; exact h.ltP) (by simp [gP.symm])
  have e1 : ∀ o, w2.cell? ⟨H, o, none⟩ = w.cell? ⟨H, o, none⟩ := fun o => by
    rw [World.cell?_of_block (w := w.setCell ⟨P, v, none⟩ (.int .i64 hp.length)) (a := ⟨H, o, none⟩) bH, cell_ne (addr_ne h.HP)]
  refine ⟨⟨?_, ?_, ?_, ?_, ?_, ?_, ?_, h.pl.push h2 hnv, ?_, ?_, h.sz, h.HS, h.HP, h.SP, h.GH, h.GS, h.GP⟩, ?_⟩
  · rw [cell_ne (addr_ne' (by omega)), e1]; exact h.c0
  · exact cell_eq (by rw [e1]; exact h.c1)
  · rw [cell_ne (addr_ne' (by omega)), e1]; exact h.c2
  · rw [World.frozen?_setCell, World.frozen?_of_block (w := w.setCell ⟨P, v, none⟩ (.int .i64 hp.length)) (a := ⟨H, 1, none⟩) bH, World.frozen?_setCell]; exact h.fr
  · refine row_ne (row_of_block (w := w.setCell ⟨P, v, none⟩ (.int .i64 hp.length)) (row_ne h.rS (by simpa [Value.ownBlock] using h.SP) _) (fun g hg => ?_)) (by simpa [Value.ownBlock] using h.HS) _
    cases hg; exact bS
  · have : nats (hp ++ [v]) = nats hp ++ [.int .i64 v] := by simp [nats]
    rw [this, List.length_append]
    exact row_ne hr (by simpa [Value.ownBlock] using gH) _
  · have r := (h.rP.stored v (.int .i64 hp.length)).1
    rw [ints_set] at r
    refine row_ne (row_of_block r (fun g hg => ?_)) (by simpa [Value.ownBlock] using h.HP) _
    cases hg; exact bP
  · rw [List.nodup_append]
    exact ⟨h.nd, by simp, fun a ha b hb e => by simp at hb; subst hb; subst e; exact hnv ha⟩
  · intro u hu
    rcases List.mem_append.1 hu with hu | hu
    · exact h.rg u hu
    · simp at hu; subst hu; exact ⟨h1, h2⟩
  · exact (k0.trans (hk.sub (fun b _ hb => by simp at hb; simp [hb]))).setCell (by simp) _
end Go.Proofs.Ytfhbndfdlnbfpaa
