/- Slices of whatever elements that came in, opened to lists: no program in sight. -/
import Derived.Test.YtoebfmhogkjmgaaGreatDoorVRow
import Derived.Deep.Slices
import Derived.Deep.Fields
import Derived.Lib.SmallJoins
namespace Go.Proofs.YtoebfmhogkjmgaaGreatDoor
open Go.RowKit Go.ChangeShapes Go.WideShapes Go.Deep
/-- the cells of n places -/
def Cells (w : World) (b off n : Nat) (cs : List Value) : Prop := cs.length = n ∧ ∀ j, j < n → w.cell? ⟨b, off + j, none⟩ = cs[j]?
/-- a slice whose elements take n cells each; R: what an element's cells are -/
def RowOf {α : Type} (n : Nat) (R : World → List Value → α → Prop) (w : World) (v : Value) (l : List α) : Prop :=
  (∃ a cap, v = .slice a 0 cap ∧ l = [] ∧ cap ≤ maxLen) ∨
  ∃ b off cap, v = .slice (some ⟨b, off, none⟩) l.length cap ∧ l.length ≤ cap ∧ cap ≤ maxLen ∧ b < w.heap.size ∧ ∀ (i : Nat) (h : i < l.length), ∃ cs, Cells w b (off + i * n) n cs ∧ R w cs l[i]
def Lasts {α : Type} (R : World → List Value → α → Prop) : Prop := ∀ (w w' : World) cs x, Below w.heap.size w w' → R w cs x → R w' cs x
theorem Cells.below {w w' : World} {b off n : Nat} {cs : List Value} (h : Cells w b off n cs) (hb : Below w.heap.size w w') (hl : b < w.heap.size) : Cells w' b off n cs :=
  ⟨h.1, fun j hj => by rw [hb.cell (p := ⟨b, off + j, none⟩) hl]; exact h.2 j hj⟩
theorem RowOf.below {α : Type} {n : Nat} {R : World → List Value → α → Prop} (hR : Lasts R) {w w' : World} {v : Value} {l : List α} (h : RowOf n R w v l) (hb : Below w.heap.size w w') : RowOf n R w' v l := by
  rcases h with h | ⟨b, off, cap, h1, h2, h3, h4, h5⟩
  · exact .inl h
  · refine .inr ⟨b, off, cap, h1, h2, h3, Nat.lt_of_lt_of_le h4 hb.size, fun i hi => ?_⟩
    obtain ⟨cs, hc, hr⟩ := h5 i hi
    exact ⟨cs, hc.below hb h4, hR w w' cs _ hb hr⟩
theorem RowOf.len {α : Type} {n : Nat} {R : World → List Value → α → Prop} {w : World} {v : Value} {l : List α} (h : RowOf n R w v l) : l.length ≤ maxLen := by
  rcases h with ⟨_, _, _, rfl, _⟩ | ⟨_, _, _, _, h1, h2, _⟩
  · simp
  · exact Nat.le_trans h1 h2
theorem RowOf.shape {α : Type} {n : Nat} {R : World → List Value → α → Prop} {w : World} {v : Value} {l : List α} (h : RowOf n R w v l) : ∃ a cap, v = .slice a l.length cap := by
  rcases h with ⟨a, cap, rfl, rfl, _⟩ | ⟨b, off, cap, rfl, _⟩
  · exact ⟨_, _, rfl⟩
  · exact ⟨_, _, rfl⟩
/-- an element, and where it lies -/
theorem RowOf.at_ {α : Type} {n : Nat} {R : World → List Value → α → Prop} {w : World} {a : Option Addr} {len cap : Nat} {l : List α} (h : RowOf n R w (.slice a len cap) l) (i : Nat) (hi : i < l.length) :
    ∃ b off, a = some ⟨b, off, none⟩ ∧ b < w.heap.size ∧ ∃ cs, Cells w b (off + i * n) n cs ∧ R w cs l[i] := by
  rcases h with ⟨_, _, _, rfl, _⟩ | ⟨b, off, cap', hv, _, _, hbw, hc⟩
  · simp at hi
  · simp only [Value.slice.injEq] at hv
    exact ⟨b, off, hv.1, hbw, hc i hi⟩
section
variable {H : Type} {enc : TypeId × Value → H} {P : Program} {w : World} {base : Nat} {spare : Nat → Bool} {held : Bool}
theorem rowOf_cells {α : Type} [Inhabited α] {R : World → List Value → α → Prop} {t e : TypeId} {n fuel : Nat} {cs : List Value} {x : DataW H × List MemPlace} (ht : P.underlying t = some (.slice e)) (hC : P.cellsOf e = n) (hn : 0 < n)
    (hR : ∀ m cs y, DataW.trod enc P w base spare held m e cs = some y → ∃ x : α, R w cs x)
    (h : DataW.trod enc P w base spare held fuel t cs = some x) : ∃ (v : Value) (l : List α), cs = [v] ∧ RowOf n R w v l := by
  rcases open_slice ht h with ⟨rfl, _⟩ | ⟨a, len, cap, m, k, D, Pl, rfl, hb, hl, hm, hmm, hx, hi⟩
  · exact ⟨_, [], rfl, .inl ⟨_, _, rfl, rfl, by omega⟩⟩
  · refine ⟨.slice (some a) len cap, ?_⟩
    by_cases h0 : len = 0
    · subst h0; exact ⟨[], rfl, .inl ⟨_, _, rfl, rfl, hm⟩⟩
    · have hlm : len ≤ m := by rw [hmm]; split <;> omega
      have hall : ∀ i, i < len → ∃ x : α, ∃ cs', (cs'.length = n ∧ ∀ j, j < n → w.cell? ((a.add (i * n)).add j) = cs'[j]?) ∧ R w cs' x := fun i hil => by
        obtain ⟨cs', hc, ht'⟩ := hi i (by omega)
        rw [hC] at hc
        obtain ⟨_, hcl, hat⟩ := World.cells?_some hc
        obtain ⟨x, hx⟩ := hR _ _ _ ht'
        exact ⟨x, cs', ⟨hcl, hat⟩, hx⟩
      obtain ⟨f, hf⟩ := choose_lt hall
      obtain ⟨b, off, spot⟩ := a
      have hspot : spot = none := by
        obtain ⟨cs', ⟨hcl, hat⟩, _⟩ := hf 0 (by omega)
        have h1 := hat 0 hn
        have h2 : cs'[0]? = some (cs'[0]'(by omega)) := List.getElem?_eq_getElem (by omega)
        rw [h2] at h1
        simpa [Addr.add] using World.cell?_spot h1
      subst hspot
      have hadd : ∀ k, (⟨b, off, none⟩ : Addr).add k = ⟨b, off + k, none⟩ := fun k => by unfold Addr.add; by_cases hk : k = 0 <;> simp [hk]
      have hat : ∀ i, i < len → ∃ cs', Cells w b (off + i * n) n cs' ∧ R w cs' (f i) := fun i hil => by
        obtain ⟨cs', ⟨hcl, hat⟩, hx⟩ := hf i hil
        refine ⟨cs', ⟨hcl, fun j hj => ?_⟩, hx⟩
        have := hat j hj
        rw [Go.Deep.add_add, hadd] at this
        rw [Nat.add_assoc]; exact this
      have hbw : b < w.heap.size := by
        obtain ⟨cs', ⟨hcl, hc⟩, _⟩ := hat 0 (by omega)
        have h1 := hc 0 hn
        have h2 : cs'[0]? = some (cs'[0]'(by omega)) := List.getElem?_eq_getElem (by omega)
        rw [h2] at h1
        exact lt_of_cell h1
      refine ⟨(List.range len).map f, rfl, .inr ⟨b, off, cap, by simp, by simp; omega, hm, hbw, fun i hi' => ?_⟩⟩
      have hil : i < len := by simpa using hi'
      obtain ⟨cs', hc, hr⟩ := hat i hil
      exact ⟨cs', hc, by simpa using hr⟩
theorem rowOf_open {α : Type} [Inhabited α] {R : World → List Value → α → Prop} {t e : TypeId} {n : Nat} {a : Option Addr} {len cap : Nat} {d : DataW H} {p : List MemPlace} (ht : P.underlying t = some (.slice e)) (hC : P.cellsOf e = n) (hn : 0 < n)
    (hR : ∀ m cs y, DataW.trod enc P w base spare held m e cs = some y → ∃ x : α, R w cs x)
    (h : DataW.Trod enc P w base spare held t (.slice a len cap) d p) : ∃ l : List α, RowOf n R w (.slice a len cap) l ∧ l.length = len := by
  obtain ⟨fuel, hf⟩ := h
  obtain ⟨v, l, hv, hrow⟩ := rowOf_cells ht hC hn hR hf
  simp [Value.cells] at hv
  subst hv
  obtain ⟨a', cap', he⟩ := hrow.shape
  simp only [Value.slice.injEq] at he
  exact ⟨l, hrow, he.2.1.symm⟩
/-- a field of one cell -/
theorem field_one {fs : Array Field} {cs : List Value} {n j : Nat} {f : Field} {xs : List (DataW H × List MemPlace)} (hone : oneCellFields P fs = true)
    (hj : fs[j]? = some f) (hl : j < cs.length) (hx : xs.length = fs.size) (h : DataW.trod enc P w base spare held n f.type ((cs.drop f.offset).take (P.cellsOf f.type)) = xs[j]?) : ∃ y, DataW.trod enc P w base spare held n f.type [cs[j]] = some y := by
  obtain ⟨ho, hk⟩ := hone_of hone j f hj
  have hjl : j < fs.size := (Array.getElem?_eq_some_iff.1 hj).1
  rw [ho, hk, List.drop_eq_getElem_cons hl] at h
  have hys : xs[j]? = some (xs[j]'(by omega)) := List.getElem?_eq_getElem (by omega)
  rw [hys] at h
  exact ⟨_, h⟩
end
end Go.Proofs.YtoebfmhogkjmgaaGreatDoor
