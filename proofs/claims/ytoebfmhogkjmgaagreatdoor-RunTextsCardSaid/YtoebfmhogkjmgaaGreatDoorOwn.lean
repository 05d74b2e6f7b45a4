/- Slices of the call's own whose elements lead to memory themselves: no program in sight. -/
import Derived.Test.YtoebfmhogkjmgaaGreatDoorOpen
import Derived.Deep.AppendLies
namespace Go.Proofs.YtoebfmhogkjmgaaGreatDoor
open Go.RowKit
set_option linter.unusedVariables false
theorem grown_refl (w : World) (og : Option Nat) : w.grownBy w og := ⟨rfl, rfl, rfl, Nat.le_refl _, fun _ _ _ => rfl⟩
theorem grown_trans {a b c : World} {og : Option Nat} (h : a.grownBy b og) (k : b.grownBy c og) : a.grownBy c og :=
  ⟨k.os.trans h.os, k.tape.trans h.tape, k.output.trans h.output, Nat.le_trans h.size k.size, fun x hx hn => (k.block x (Nat.lt_of_lt_of_le hx h.size) hn).trans (h.block x hx hn)⟩
theorem grown_of_below {w w' : World} (og : Option Nat) (h : Below w.heap.size w w') : w.grownBy w' og := ⟨h.os, h.tape, h.output, h.size, fun b hb _ => h.block b hb⟩
theorem below_of_grown {w w' : World} {og : Option Nat} (h : w.grownBy w' og) {B : Nat} (hB : B ≤ w.heap.size) (hg : ∀ g, og = some g → B ≤ g) : Below B w w' :=
  ⟨h.os, h.tape, h.output, h.size, fun b hb => h.block b (Nat.lt_of_lt_of_le hb hB) (fun e => by have := hg b e.symm; omega)⟩
/-- the same but for some blocks, and new ones -/
structure Near (F : Nat → Prop) (w w' : World) : Prop where
  os : w'.os = w.os
  tape : w'.tape = w.tape
  output : w'.output = w.output
  size : w.heap.size ≤ w'.heap.size
  block : ∀ b, b < w.heap.size → ¬ F b → w'.heap[b]? = w.heap[b]?
theorem Near.refl (F : Nat → Prop) (w : World) : Near F w w := ⟨rfl, rfl, rfl, Nat.le_refl _, fun _ _ _ => rfl⟩
theorem Near.trans {F : Nat → Prop} {a b c : World} (h : Near F a b) (k : Near F b c) : Near F a c :=
  ⟨k.os.trans h.os, k.tape.trans h.tape, k.output.trans h.output, Nat.le_trans h.size k.size, fun x hx hn => (k.block x (Nat.lt_of_lt_of_le hx h.size) hn).trans (h.block x hx hn)⟩
theorem Near.mono {F G : Nat → Prop} {w w' : World} (h : Near F w w') (hs : ∀ b, b < w.heap.size → F b → G b) : Near G w w' := ⟨h.os, h.tape, h.output, h.size, fun b hb hn => h.block b hb (fun hf => hn (hs b hb hf))⟩
theorem near_of_below {w w' : World} (F : Nat → Prop) (h : Below w.heap.size w w') : Near F w w' := ⟨h.os, h.tape, h.output, h.size, fun b hb _ => h.block b hb⟩
theorem near_of_grown {w w' : World} {og : Option Nat} (h : w.grownBy w' og) {F : Nat → Prop} (hF : ∀ b, og = some b → F b) : Near F w w' := ⟨h.os, h.tape, h.output, h.size, fun b hb hn => h.block b hb (fun e => hn (hF b e.symm))⟩
theorem near_setCell (w : World) (a : Addr) (u : Value) {F : Nat → Prop} (hF : F a.block) : Near F w (w.setCell a u) := by
  have hb := (Below.refl 0 w).setCell (p := a) (Nat.zero_le _) u
  exact ⟨hb.os, hb.tape, hb.output, hb.size, fun b hb' hn => Below.heap_setCell _ _ _ _ (fun e => hn (by rw [← e] at hF; exact hF))⟩
theorem near_drewN (F : Nat → Prop) (w : World) (m : Nat) : Near F w (w.drewN m) := ⟨rfl, rfl, rfl, Nat.le_refl _, fun _ _ _ => rfl⟩
theorem near_drew (F : Nat → Prop) (w : World) : Near F w w.drew := ⟨rfl, rfl, rfl, Nat.le_refl _, fun _ _ _ => rfl⟩
theorem near_alloc (F : Nat → Prop) (w : World) (o : Obj) : Near F w (w.alloc o) := near_of_below F ((Below.refl _ _).alloc (Nat.le_refl _) o)
theorem Near.below {F : Nat → Prop} {w w' : World} (h : Near F w w') {B : Nat} (hB : B ≤ w.heap.size) (hF : ∀ b, F b → B ≤ b) : Below B w w' :=
  ⟨h.os, h.tape, h.output, h.size, fun b hb => h.block b (Nat.lt_of_lt_of_le hb hB) (fun hf => by have := hF b hf; omega)⟩
/-- what an element is, whatever becomes of some blocks -/
def Robust {α : Type} (R : World → List Value → α → Prop) (w : World) (F : Nat → Prop) (cs : List Value) (x : α) : Prop := ∀ w', Near F w w' → R w' cs x
theorem Robust.here {α : Type} {R : World → List Value → α → Prop} {w : World} {F : Nat → Prop} {cs : List Value} {x : α} (h : Robust R w F cs x) : R w cs x := h w (Near.refl F w)
theorem Robust.on {α : Type} {R : World → List Value → α → Prop} {w w' : World} {F : Nat → Prop} {cs : List Value} {x : α} (h : Robust R w F cs x) (hg : Near F w w') : Robust R w' F cs x := fun w'' hg' => h w'' (hg.trans hg')
/-- a slice of the call's own: its elements take n cells each, and are what R says, whatever becomes of the blocks F and of its own -/
def OwnOf {α : Type} (n : Nat) (R : World → List Value → α → Prop) (F : Nat → Prop) (w : World) (base : Nat) (E : TypeId) (v : Value) (l : List α) : Prop :=
  ∃ css : List (List Value), css.length = l.length ∧ (∀ cs ∈ css, cs.length = n) ∧ w.ownsRow base E n v l.length css.flatten ∧ ∀ (i : Nat) (h : i < css.length) (h' : i < l.length), Robust R w (fun b => F b ∨ v.ownBlock = some b) css[i] l[i]
theorem ownOf_nil {α : Type} (n : Nat) (R : World → List Value → α → Prop) (F : Nat → Prop) (w : World) (base : Nat) (E : TypeId) : OwnOf n R F w base E (.slice none 0 0) ([] : List α) :=
  ⟨[], rfl, (fun _ h => by cases h), ⟨by simp, .inl ⟨rfl, rfl⟩⟩, (fun i h => by simp at h)⟩
theorem OwnOf.below {α : Type} {n : Nat} {R : World → List Value → α → Prop} {F : Nat → Prop} {w w' : World} {base : Nat} {E : TypeId} {v : Value} {l : List α} (h : OwnOf n R F w base E v l) (hb : Below w.heap.size w w') : OwnOf n R F w' base E v l := by
  obtain ⟨css, h1, h2, h3, h4⟩ := h
  exact ⟨css, h1, h2, ownsRow_below h3 hb, fun i hi hi' => (h4 i hi hi').on (near_of_below _ hb)⟩
theorem ownsRow_near {F : Nat → Prop} {w w' : World} {base : Nat} {e : TypeId} {size : Nat} {v : Value} {n : Nat} {xs : List Value} (h : w.ownsRow base e size v n xs) (hN : Near F w w') (hF : ∀ b, v.ownBlock = some b → ¬ F b) : w'.ownsRow base e size v n xs := by
  obtain ⟨hl, h⟩ := h
  refine ⟨hl, ?_⟩
  rcases h with h | ⟨g, cap, cur, h1, h2, h3, h4⟩
  · exact .inl h
  · refine .inr ⟨g, cap, cur, h1, h2, ?_, h4⟩
    have hlt : g < w.heap.size := by
      apply Classical.byContradiction
      intro hn
      have : w.heap[g]? = none := by simp; omega
      rw [this] at h3; cases h3
    rw [hN.block g hlt (hF g (by rw [h1]; rfl))]; exact h3
theorem OwnOf.near {α : Type} {n : Nat} {R : World → List Value → α → Prop} {F : Nat → Prop} {w w' : World} {base : Nat} {E : TypeId} {v : Value} {l : List α} (h : OwnOf n R F w base E v l) (hN : Near F w w') (hF : ∀ b, v.ownBlock = some b → ¬ F b) : OwnOf n R F w' base E v l := by
  obtain ⟨css, h1, h2, h3, h4⟩ := h
  exact ⟨css, h1, h2, ownsRow_near h3 hN hF, fun i hi hi' => (h4 i hi hi').on (hN.mono (fun _ _ hf => .inl hf))⟩
theorem OwnOf.owns {α : Type} {n : Nat} {R : World → List Value → α → Prop} {F : Nat → Prop} {w : World} {base : Nat} {E : TypeId} {v : Value} {l : List α} (h : OwnOf n R F w base E v l) : ∃ css, w.ownsRow base E n v l.length css := by
  obtain ⟨css, _, _, h, _⟩ := h; exact ⟨_, h⟩
/-- behind an append of one element -/
theorem OwnOf.snoc {α : Type} {n : Nat} {R : World → List Value → α → Prop} {F : Nat → Prop} {w w2 : World} {base : Nat} {E : TypeId} {v : Value} {l : List α} {x : α} {cs : List Value} {css : List (List Value)} {g cap : Nat}
    (hcl : css.length = l.length) (hcn : ∀ c ∈ css, c.length = n) (hel : ∀ (i : Nat) (h : i < css.length) (h' : i < l.length), Robust R w (fun b => F b ∨ v.ownBlock = some b) css[i] l[i]) (hn : cs.length = n) (hnew : Robust R w (fun b => F b ∨ v.ownBlock = some b) cs x)
    (hown : w2.ownsRow base E n (.slice (some ⟨g, 0, none⟩) (l.length + 1) cap) (l.length + 1) (css.flatten ++ cs)) (hgrow : w.grownBy w2 v.ownBlock) (hat : v.ownBlock = some g ∨ g = w.heap.size) :
    OwnOf n R F w2 base E (.slice (some ⟨g, 0, none⟩) (l.length + 1) cap) (l ++ [x]) := by
  have hN : Near (fun b => F b ∨ v.ownBlock = some b) w w2 := near_of_grown hgrow (fun b e => .inr e)
  have key : ∀ (c : List Value) (y : α), Robust R w (fun b => F b ∨ v.ownBlock = some b) c y → Robust R w2 (fun b => F b ∨ some g = some b) c y := by
    intro c y hr
    rcases hat with hat | hat
    · rw [← hat]; exact hr.on hN
    · intro w' hg
      refine hr w' ⟨hg.os.trans hN.os, hg.tape.trans hN.tape, hg.output.trans hN.output, Nat.le_trans hN.size hg.size, fun b hb hne => ?_⟩
      rw [hg.block b (Nat.lt_of_lt_of_le hb hN.size) (by rintro (hf | e); exact hne (.inl hf); injection e with e; omega)]
      exact hN.block b hb hne
  refine ⟨css ++ [cs], by simp [hcl], ?_, ?_, ?_⟩
  · intro c hc
    rcases List.mem_append.1 hc with hc | hc
    · exact hcn c hc
    · rw [List.mem_singleton] at hc; rw [hc]; exact hn
  · have e : (css ++ [cs]).flatten = css.flatten ++ cs := by simp
    rw [e, List.length_append]
    exact hown
  · intro i hi hi'
    show Robust R w2 (fun b => F b ∨ some g = some b) _ _
    by_cases hlt : i < css.length
    · rw [List.getElem_append_left hlt, List.getElem_append_left (by omega)]
      exact key _ _ (hel i hlt (by omega))
    · have : i = css.length := by simp at hi; omega
      subst this
      rw [List.getElem_append_right (Nat.le_refl _), List.getElem_append_right (by omega)]
      simpa using key _ _ hnew
theorem flatten_at (n : Nat) : ∀ (css : List (List Value)), (∀ c ∈ css, c.length = n) → ∀ (i : Nat) (h : i < css.length) (j : Nat), j < n → css.flatten[i * n + j]? = (css[i])[j]? := by
  intro css
  induction css with
  | nil => intro _ i h; simp at h
  | cons c t ih =>
    intro hc i h j hj
    have hcl : c.length = n := hc c (by simp)
    cases i with
    | zero =>
      rw [List.flatten_cons, List.getElem?_append_left (by omega)]
      simp
    | succ i =>
      rw [List.flatten_cons, List.getElem?_append_right (by rw [hcl, Nat.succ_mul]; omega)]
      have e : (i + 1) * n + j - c.length = i * n + j := by rw [hcl, Nat.succ_mul]; omega
      rw [e, ih (fun c hc' => hc c (by simp [hc'])) i (by simpa using h) j hj]
      simp
theorem ownsRow_cells {w : World} {base : Nat} {E : TypeId} {n g cap m : Nat} {xs : List Value} (h : w.ownsRow base E n (.slice (some ⟨g, 0, none⟩) m cap) m xs) {j : Nat} (hj : j < m * n) : w.cell? ⟨g, j, none⟩ = xs[j]? := by
  obtain ⟨hl, h⟩ := h
  rcases h with ⟨h, _⟩ | ⟨g', cap', cur, h1, _, h3, _, _, _, h7⟩
  · cases h
  · injection h1 with h1 h2 h4
    injection h1 with h1
    injection h1 with h1
    subst h1
    rw [cell_of_row w g j cur E (0, 0) h3, ← h7, List.getElem?_take_of_lt hj, Array.getElem?_toList]
theorem OwnOf.row {α : Type} {n : Nat} {R : World → List Value → α → Prop} {F : Nat → Prop} {w : World} {base : Nat} {E : TypeId} {v : Value} {l : List α} (h : OwnOf n R F w base E v l) (hn : 0 < n) : RowOf n R w v l := by
  obtain ⟨css, h1, h2, h3, h4⟩ := h
  by_cases hl : l.length = 0
  · have hl' := List.length_eq_zero_iff.1 hl
    subst hl'
    rcases h3.2 with ⟨rfl, _⟩ | ⟨g, cap, cur, rfl, _, _, _, hc, _⟩
    · exact .inl ⟨_, _, rfl, rfl, by omega⟩
    · exact .inl ⟨_, _, rfl, rfl, hc⟩
  · have h3' := h3
    rcases h3.2 with ⟨_, h0⟩ | ⟨g, cap, cur, rfl, _, hg, hc1, hc2, _⟩
    · exact absurd h0 hl
    · refine .inr ⟨g, 0, cap, rfl, hc1, hc2, ?_, fun i hi => ?_⟩
      · rcases Nat.lt_or_ge g w.heap.size with hlt | hge
        · exact hlt
        · rw [Array.getElem?_eq_none hge] at hg; cases hg
      · have hi' : i < css.length := by omega
        refine ⟨css[i], ⟨h2 _ (List.getElem_mem _), fun j hj => ?_⟩, (h4 i hi' hi).here⟩
        have hlt : i * n + j < l.length * n := by
          have : (i + 1) * n ≤ l.length * n := Nat.mul_le_mul_right n hi
          rw [Nat.succ_mul] at this; omega
        rw [Nat.zero_add, ownsRow_cells h3' hlt]
        exact flatten_at n css h2 i hi' j hj
/-- a slice whose elements' cells stay, and what they are, whatever becomes of the blocks F -/
def FixOf {α : Type} (n : Nat) (R : World → List Value → α → Prop) (F : Nat → Prop) (w : World) (v : Value) (l : List α) : Prop :=
  (∃ a cap, v = .slice a 0 cap ∧ l = [] ∧ cap ≤ maxLen) ∨
  ∃ (b off cap : Nat) (css : List (List Value)), v = .slice (some ⟨b, off, none⟩) l.length cap ∧ l.length ≤ cap ∧ cap ≤ maxLen ∧ b < w.heap.size ∧ css.length = l.length ∧
    ∀ (i : Nat) (h : i < css.length) (h' : i < l.length) (w' : World), Near F w w' → Cells w' b (off + i * n) n css[i] ∧ R w' css[i] l[i]
theorem FixOf.row {α : Type} {n : Nat} {R : World → List Value → α → Prop} {F : Nat → Prop} {w : World} {v : Value} {l : List α} (h : FixOf n R F w v l) : RowOf n R w v l := by
  rcases h with h | ⟨b, off, cap, css, h1, h2, h3, h4, h5, h6⟩
  · exact .inl h
  · exact .inr ⟨b, off, cap, h1, h2, h3, h4, fun i hi => ⟨css[i]'(by omega), h6 i (by omega) hi w (Near.refl _ _)⟩⟩
theorem FixOf.near {α : Type} {n : Nat} {R : World → List Value → α → Prop} {F F' : Nat → Prop} {w w' : World} {v : Value} {l : List α} (h : FixOf n R F w v l) (hN : Near F w w') (hF : ∀ b, b < w.heap.size → F' b → F b) : FixOf n R F' w' v l := by
  rcases h with h | ⟨b, off, cap, css, h1, h2, h3, h4, h5, h6⟩
  · exact .inl h
  · refine .inr ⟨b, off, cap, css, h1, h2, h3, Nat.lt_of_lt_of_le h4 hN.size, h5, fun i hi hi' w2 h2 => h6 i hi hi' w2 ?_⟩
    exact ⟨h2.os.trans hN.os, h2.tape.trans hN.tape, h2.output.trans hN.output, Nat.le_trans hN.size h2.size, fun x hx hn => (h2.block x (Nat.lt_of_lt_of_le hx hN.size) (fun hf => hn (hF x hx hf))).trans (hN.block x hx hn)⟩
theorem OwnOf.fix {α : Type} {n : Nat} {R : World → List Value → α → Prop} {F : Nat → Prop} {w : World} {base : Nat} {E : TypeId} {v : Value} {l : List α} (h : OwnOf n R F w base E v l) (hF : ∀ b, v.ownBlock = some b → ¬ F b) : FixOf n R F w v l := by
  obtain ⟨css, h1, h2, h3, h4⟩ := h
  by_cases hl : l.length = 0
  · have hl' := List.length_eq_zero_iff.1 hl
    subst hl'
    rcases h3.2 with ⟨rfl, _⟩ | ⟨g, cap, cur, rfl, _, _, _, hc, _⟩
    · exact .inl ⟨_, _, rfl, rfl, by omega⟩
    · exact .inl ⟨_, _, rfl, rfl, hc⟩
  · have h3' := h3
    rcases h3.2 with ⟨_, h0⟩ | ⟨g, cap, cur, rfl, _, hg, hc1, hc2, _⟩
    · exact absurd h0 hl
    · refine .inr ⟨g, 0, cap, css, rfl, hc1, hc2, ?_, h1, fun i hi hi' w' hN => ⟨⟨h2 _ (List.getElem_mem _), fun j hj => ?_⟩, (h4 i hi hi') w' (hN.mono (fun _ _ hf => .inl hf))⟩⟩
      · rcases Nat.lt_or_ge g w.heap.size with hlt | hge
        · exact hlt
        · rw [Array.getElem?_eq_none hge] at hg; cases hg
      · have hlt : i * n + j < l.length * n := by
          have : (i + 1) * n ≤ l.length * n := Nat.mul_le_mul_right n hi'
          rw [Nat.succ_mul] at this; omega
        rw [Nat.zero_add, ownsRow_cells (ownsRow_near h3' hN hF) hlt]
        exact flatten_at n css h2 i hi j hj
theorem FixOf.shape {α : Type} {n : Nat} {R : World → List Value → α → Prop} {F : Nat → Prop} {w : World} {v : Value} {l : List α} (h : FixOf n R F w v l) : ∃ a cap, v = .slice a l.length cap := h.row.shape
end Go.Proofs.YtoebfmhogkjmgaaGreatDoor
