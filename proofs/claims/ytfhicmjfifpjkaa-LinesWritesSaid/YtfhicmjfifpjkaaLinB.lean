/- The contract of lines.split. -/
import Derived.Test.YtfhicmjfifpjkaaLinA
import Derived.Test.YtfhicmjfifpjkaaVar
namespace Go.Proofs.Ytfhicmjfifpjkaa
open Go.RowKit
set_option linter.unusedVariables false
theorem info_str : (Try.prog.info? 9).map (fun i => (i.zero, i.size, i.bytes)) = some (some (.string ByteArray.empty), 1, 16) := by kernel_rfl
theorem info_int : (Try.prog.info? 3).map (fun i => (i.zero, i.size, i.bytes)) = some (some (.int .i64 0), 1, 8) := by kernel_rfl
structure SplR (w : World) (no : Nat) (ws : List (List UInt8)) (cs : List Nat) (wv cv : Value) (wr : World) : Prop where
  v4 : VarAt wr w.heap.size [.int .i64 0, .slice none 0 0, .slice none 0 0]
  v5 : VarAt wr (w.heap.size + 1) [.int .i64 0, .int .i64 0, .int .i64 0]
  v6 : VarAt wr (w.heap.size + 2) [.int .i64 no, wv, cv]
  rw_ : wr.ownsRow (w.heap.size + 3) 9 1 wv ws.length (strVals ws)
  rc : wr.ownsRow (w.heap.size + 3) 3 1 cv cs.length (natVals cs)
  ne : ∀ g, wv.ownBlock = some g → cv.ownBlock ≠ some g
  be : Below w.heap.size w wr
theorem SplR.three {w : World} {no : Nat} {ws : List (List UInt8)} {cs : List Nat} {wv cv : Value} {wr : World} (h : SplR w no ws cs wv cv wr) : w.heap.size + 3 ≤ wr.heap.size := by have := h.v6.lt; omega
theorem SplR.after {w : World} {no : Nat} {ws : List (List UInt8)} {cs : List Nat} {wv cv : Value} {wr wa : World} (h : SplR w no ws cs wv cv wr) (hb : Below wr.heap.size wr wa) : SplR w no ws cs wv cv wa :=
  ⟨h.v4.after hb, h.v5.after hb, h.v6.after hb, ownsRow_below h.rw_ hb, ownsRow_below h.rc hb, h.ne, h.be.trans (hb.mono (by have := h.be.size; omega))⟩
theorem SplR.words {w : World} {no : Nat} {ws : List (List UInt8)} {cs : List Nat} {wv cv : Value} {wa w1 : World} (h : SplR w no ws cs wv cv wa) {x : List UInt8} {g cap : Nat}
    (hown : w1.ownsRow (w.heap.size + 3) 9 1 (.slice (some ⟨g, 0, none⟩) (ws.length + 1) cap) (ws.length + 1) (strVals ws ++ [.string ⟨x.toArray⟩])) (hgrow : wa.grownBy w1 wv.ownBlock) (hat : wv.ownBlock = some g ∨ g = wa.heap.size) :
    SplR w no (ws ++ [x]) cs (.slice (some ⟨g, 0, none⟩) (ws.length + 1) cap) cv (w1.setCell ⟨w.heap.size + 2, 1, none⟩ (.slice (some ⟨g, 0, none⟩) (ws.length + 1) cap)) := by
  have hfar : ∀ b, b < w.heap.size + 3 → wv.ownBlock ≠ some b := fun b hb e => by have := (row_block h.rw_ e).1; omega
  have hg3 : w.heap.size + 3 ≤ g := (row_block hown rfl).1
  have hcv : ∀ b, cv.ownBlock = some b → w.heap.size + 3 ≤ b ∧ b < wa.heap.size := fun b e => row_block h.rc e
  refine ⟨(h.v4.grown hgrow (hfar _ (by omega))).setO (by simp) _, (h.v5.grown hgrow (hfar _ (by omega))).setO (by simp) _, ?_, ?_, ?_, ?_, ?_⟩
  · exact (h.v6.grown hgrow (hfar _ (by omega))).set 1 (by simp) _
  · rw [strVals_snoc, List.length_append]
    exact row_set hown (by simp [Value.ownBlock]; omega) _
  · refine row_set (h.rc.kept hgrow ?_) (fun e => ?_) _
    · cases hc : cv.ownBlock with
      | none => exact .inl rfl
      | some b => exact .inr (fun e => h.ne b e.symm hc)
    · have := hcv _ e; simp at this
  · intro b hb e
    have hb' : g = b := by simpa [Value.ownBlock] using hb
    subst hb'
    rcases hat with hat | hat
    · exact h.ne _ hat e
    · have := hcv _ e; omega
  · exact ((h.be).trans (below_of_grown hgrow (by have := h.be.size; omega) (fun b e => by have := (row_block h.rw_ e).1; omega))).setCell (by simp) _
theorem SplR.cols {w : World} {no : Nat} {ws : List (List UInt8)} {cs : List Nat} {wv cv : Value} {wa w1 : World} (h : SplR w no ws cs wv cv wa) {x : Nat} {g cap : Nat}
    (hown : w1.ownsRow (w.heap.size + 3) 3 1 (.slice (some ⟨g, 0, none⟩) (cs.length + 1) cap) (cs.length + 1) (natVals cs ++ [.int .i64 x])) (hgrow : wa.grownBy w1 cv.ownBlock) (hat : cv.ownBlock = some g ∨ g = wa.heap.size) :
    SplR w no ws (cs ++ [x]) wv (.slice (some ⟨g, 0, none⟩) (cs.length + 1) cap) (w1.setCell ⟨w.heap.size + 2, 2, none⟩ (.slice (some ⟨g, 0, none⟩) (cs.length + 1) cap)) := by
  have hfar : ∀ b, b < w.heap.size + 3 → cv.ownBlock ≠ some b := fun b hb e => by have := (row_block h.rc e).1; omega
  have hg3 : w.heap.size + 3 ≤ g := (row_block hown rfl).1
  have hwv : ∀ b, wv.ownBlock = some b → w.heap.size + 3 ≤ b ∧ b < wa.heap.size := fun b e => row_block h.rw_ e
  refine ⟨(h.v4.grown hgrow (hfar _ (by omega))).setO (by simp) _, (h.v5.grown hgrow (hfar _ (by omega))).setO (by simp) _, ?_, ?_, ?_, ?_, ?_⟩
  · exact (h.v6.grown hgrow (hfar _ (by omega))).set 2 (by simp) _
  · refine row_set (h.rw_.kept hgrow ?_) (fun e => ?_) _
    · cases hc : wv.ownBlock with
      | none => exact .inl rfl
      | some b => exact .inr (fun e => h.ne b hc e.symm)
    · have := hwv _ e; simp at this
  · rw [natVals_snoc, List.length_append]
    exact row_set hown (by simp [Value.ownBlock]; omega) _
  · intro b hb e
    have hb' : g = b := by simpa [Value.ownBlock] using e
    subst hb'
    rcases hat with hat | hat
    · exact h.ne _ hb hat
    · have := hwv _ hb; omega
  · exact ((h.be).trans (below_of_grown hgrow (by have := h.be.size; omega) (fun b e => by have := (row_block h.rc e).1; omega))).setCell (by simp) _
def SplitPost (w : World) (no : Nat) : SRes → Ending → World → Prop
  | .bad c col, e, w' => e = .returned (.tuple #[.agg #[.int .i64 0, .slice none 0 0, .slice none 0 0], .agg #[.int .i64 c, .int .i64 no, .int .i64 col]]) ∧ Below w.heap.size w w'
  | .ok ws cs, e, w' => ∃ wv cv, e = .returned (.tuple #[.agg #[.int .i64 no, wv, cv], .agg #[.int .i64 0, .int .i64 0, .int .i64 0]]) ∧ w'.ownsRow w.heap.size 9 1 wv ws.length (strVals ws) ∧ w'.ownsRow w.heap.size 3 1 cv cs.length (natVals cs) ∧ Below w.heap.size w w'
theorem SplR.first (w wq : World) (no : Nat) (hb : Below (w.heap.size + 2) ((w.alloc (.cells #[.int .i64 0, .slice none 0 0, .slice none 0 0] 34)).alloc (.cells #[.int .i64 0, .int .i64 0, .int .i64 0] 30)) wq) (hs : wq.heap.size = w.heap.size + 2) :
    SplR w no [] [] (.slice none 0 0) (.slice none 0 0) (wq.alloc (.cells #[.int .i64 no, .slice none 0 0, .slice none 0 0] 34)) := by
  have a4 := ((varAt_new w #[.int .i64 0, .slice none 0 0, .slice none 0 0] 34 _ rfl).alloc (.cells #[.int .i64 0, .int .i64 0, .int .i64 0] 30)).below hb (by omega)
  have a5 := (varAt_new (w.alloc (.cells #[.int .i64 0, .slice none 0 0, .slice none 0 0] 34)) #[.int .i64 0, .int .i64 0, .int .i64 0] 30 (w.heap.size + 1) (by simp)).below hb (by omega)
  refine ⟨a4.alloc _, a5.alloc _, ?_, ⟨by simp [strVals], .inl ⟨rfl, rfl⟩⟩, ⟨by simp [natVals], .inl ⟨rfl, rfl⟩⟩, (fun g hg => by cases hg), ?_⟩
  · exact varAt_new wq #[.int .i64 no, .slice none 0 0, .slice none 0 0] _ _ (by omega)
  · exact ((((Below.refl _ _).alloc (Nat.le_refl _) _).alloc (by simp) _).trans (hb.mono (by omega))).alloc (by omega) _
end Go.Proofs.Ytfhicmjfifpjkaa
