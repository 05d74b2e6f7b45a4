/- A variable in memory (a block of the call's own that is read and written cell by cell): no program in sight. -/
import Derived.Test.YtoebfmhogkjmgaaGreatDoorOwn
import Derived.WalkSmall
namespace Go.Proofs.YtoebfmhogkjmgaaGreatDoor
open Go.RowKit
set_option linter.unusedVariables false
theorem addr_ne {b c o p : Nat} (h : b ≠ c) : (⟨b, o, none⟩ : Addr) ≠ ⟨c, p, none⟩ := by intro e; injection e with e1; exact h e1
theorem addr_ne' {b c o p : Nat} (h : o ≠ p) : (⟨b, o, none⟩ : Addr) ≠ ⟨c, p, none⟩ := by intro e; injection e with _ e1; exact h e1
theorem cell_ne {w : World} {a b : Addr} {v : Value} (h : a ≠ b) : (w.setCell a v).cell? b = w.cell? b := World.cell?_setCell_other _ _ _ _ h
theorem cell_eq {w : World} {a : Addr} {v u : Value} (h : w.cell? a = some u) : (w.setCell a v).cell? a = some v := World.cell?_setCell_same _ _ _ h
structure VarAt (w : World) (b : Nat) (vs : List Value) : Prop where
  lt : b < w.heap.size
  cell : ∀ i, i < vs.length → w.cell? ⟨b, i, none⟩ = vs[i]?
  free : ∀ i, w.frozen? ⟨b, i, none⟩ = false
theorem VarAt.get {w : World} {b : Nat} {vs : List Value} (h : VarAt w b vs) (i : Nat) {u : Value} (hu : vs[i]? = some u) : w.cell? ⟨b, i, none⟩ = some u := by
  rw [h.cell i (by rcases Nat.lt_or_ge i vs.length with hl | hl; exact hl; rw [List.getElem?_eq_none hl] at hu; cases hu), hu]
theorem VarAt.grown {w w' : World} {b : Nat} {vs : List Value} {og : Option Nat} (h : VarAt w b vs) (hg : w.grownBy w' og) (hn : og ≠ some b) : VarAt w' b vs := by
  have hb := hg.block b h.lt (Ne.symm hn)
  exact ⟨Nat.lt_of_lt_of_le h.lt hg.size, fun i hi => by rw [World.cell?_of_block (w := w) (a := ⟨b, i, none⟩) hb]; exact h.cell i hi, fun i => by rw [World.frozen?_of_block (w := w) (a := ⟨b, i, none⟩) hb]; exact h.free i⟩
theorem VarAt.below {w w' : World} {b : Nat} {vs : List Value} {B : Nat} (h : VarAt w b vs) (hb : Below B w w') (hB : b < B) : VarAt w' b vs := by
  have hb' := hb.block b hB
  exact ⟨Nat.lt_of_lt_of_le h.lt hb.size, fun i hi => by rw [World.cell?_of_block (w := w) (a := ⟨b, i, none⟩) hb']; exact h.cell i hi, fun i => by rw [World.frozen?_of_block (w := w) (a := ⟨b, i, none⟩) hb']; exact h.free i⟩
theorem VarAt.after {w w' : World} {b : Nat} {vs : List Value} (h : VarAt w b vs) (hb : Below w.heap.size w w') : VarAt w' b vs := h.below hb h.lt
theorem heap_setCell_size (w : World) (a : Addr) (u : Value) : (w.setCell a u).heap.size = w.heap.size := by simp [World.setCell]
theorem VarAt.set {w : World} {b : Nat} {vs : List Value} (h : VarAt w b vs) (i : Nat) (hi : i < vs.length) (u : Value) : VarAt (w.setCell ⟨b, i, none⟩ u) b (vs.set i u) := by
  refine ⟨by rw [heap_setCell_size]; exact h.lt, fun j hj => ?_, fun j => by rw [World.frozen?_setCell]; exact h.free j⟩
  rw [List.length_set] at hj
  by_cases e : i = j
  · subst e
    rw [cell_eq (u := vs[i]) (by rw [h.cell i hi]; simp), List.getElem?_set_self hi]
  · rw [cell_ne (addr_ne' e), List.getElem?_set_ne e]; exact h.cell j hj
theorem VarAt.setO {w : World} {b : Nat} {vs : List Value} (h : VarAt w b vs) {a : Addr} (hn : a.block ≠ b) (u : Value) : VarAt (w.setCell a u) b vs := by
  refine ⟨by rw [heap_setCell_size]; exact h.lt, fun j hj => ?_, fun j => by rw [World.frozen?_setCell]; exact h.free j⟩
  rw [cell_ne (by intro e; exact hn (by rw [e]))]; exact h.cell j hj
theorem VarAt.drewN {w : World} {b : Nat} {vs : List Value} (h : VarAt w b vs) (q : Nat) : VarAt (w.drewN q) b vs := ⟨h.lt, h.cell, h.free⟩
theorem VarAt.drew {w : World} {b : Nat} {vs : List Value} (h : VarAt w b vs) : VarAt w.drew b vs := ⟨h.lt, h.cell, h.free⟩
theorem VarAt.alloc {w : World} {b : Nat} {vs : List Value} (h : VarAt w b vs) (o : Obj) : VarAt (w.alloc o) b vs := h.after ((Below.refl _ _).alloc (Nat.le_refl _) o)
theorem varAt_new (w : World) (A : Array Value) (T : TypeId) (n : Nat) (hn : n = w.heap.size) : VarAt (w.alloc (.cells A T)) n A.toList := by
  subst hn
  exact ⟨by simp, fun i hi => by rw [World.cell?_alloc_at _ _ _ _ rfl]; simp, fun i => World.frozen?_alloc_at _ _ _ _ rfl⟩
theorem grown_set (w : World) (a : Addr) (u : Value) : w.grownBy (w.setCell a u) (some a.block) := by
  have hb := (Below.refl 0 w).setCell (p := a) (Nat.zero_le _) u
  exact ⟨hb.os, hb.tape, hb.output, hb.size, fun k hk hne => Below.heap_setCell _ _ _ _ (fun e => hne (by rw [e]))⟩
/-- an owned row stays where another block is stored to -/
theorem row_set {w : World} {base : Nat} {e : TypeId} {size : Nat} {v : Value} {n : Nat} {xs : List Value} (h : w.ownsRow base e size v n xs) {a : Addr} (hne : v.ownBlock ≠ some a.block) (u : Value) :
    (w.setCell a u).ownsRow base e size v n xs := h.kept (grown_set w a u) (.inr hne)
theorem row_block {w : World} {base : Nat} {e : TypeId} {size : Nat} {v : Value} {n : Nat} {xs : List Value} (h : w.ownsRow base e size v n xs) {g : Nat} (hg : v.ownBlock = some g) : base ≤ g ∧ g < w.heap.size := by
  rcases h.2 with ⟨rfl, _⟩ | ⟨g', cap, cur, rfl, h1, h2, _⟩
  · cases hg
  · have e : g' = g := by simpa [Value.ownBlock] using hg
    subst e
    refine ⟨h1, ?_⟩
    rcases Nat.lt_or_ge g' w.heap.size with hlt | hge
    · exact hlt
    · rw [Array.getElem?_eq_none hge] at h2; cases h2
def strVals (ls : List (List UInt8)) : List Value := ls.map fun l => Value.string ⟨l.toArray⟩
theorem strVals_length (ls : List (List UInt8)) : (strVals ls).length = ls.length := by simp [strVals]
theorem strVals_snoc (ls : List (List UInt8)) (l : List UInt8) : strVals (ls ++ [l]) = strVals ls ++ [Value.string ⟨l.toArray⟩] := by simp [strVals]
def natVals (ls : List Nat) : List Value := ls.map fun n : Nat => Value.int .i64 (n : Int)
theorem natVals_length (ls : List Nat) : (natVals ls).length = ls.length := by simp [natVals]
theorem natVals_snoc (ls : List Nat) (n : Nat) : natVals (ls ++ [n]) = natVals ls ++ [Value.int .i64 (n : Int)] := by simp [natVals]
theorem info_parts' {P : Program} {t : TypeId} {z : Value} {a b : Nat} (h : (P.info? t).map (fun i => (i.zero, i.size, i.bytes)) = some (some z, a, b)) : ∃ i, P.info? t = some i ∧ i.zero = some z ∧ i.size = a ∧ i.bytes = b := by
  cases hh : P.info? t with
  | none => rw [hh] at h; cases h
  | some i => rw [hh] at h; simp at h; exact ⟨i, rfl, h.1, h.2.1, h.2.2⟩
end Go.Proofs.YtoebfmhogkjmgaaGreatDoor
