/- A region that draws its order, walked operation by operation; operations that a false guard leaves out among them: no program in sight. -/
import Derived.Test.YteimfcokobdldaaOwn
import Derived.Deep.RegionHeld3
namespace Go.Proofs.Yteimfcokobdldaa
open Go.RowKit
section
variable {P : Program} {ops : Array Oper} {Q : Exit → Act → World → Prop} {md : Region.Mode} {S : World → Prop}
/-- those of n that have come up -/
def marks (n : Nat) (ks : List Nat) : Array Bool := ((List.range n).map fun i => ks.contains i).toArray
theorem marks_zero (n : Nat) : Array.replicate n false = marks n [] := by
  apply Array.ext
  · simp [marks]
  · intro i h1 h2; simp [marks]
theorem marks_succ (n k : Nat) (ks : List Nat) : (marks n ks).setIfInBounds k true = marks n (k :: ks) := by
  apply Array.ext
  · simp [marks]
  · intro i h1 h2
    rw [Array.getElem_setIfInBounds]
    · simp only [marks, List.getElem_toArray, List.getElem_map, List.getElem_range, List.contains_cons]
      by_cases e : k = i
      · subst e; simp
      · rw [if_neg e]
        have : (i == k) = false := by simp; omega
        rw [this, Bool.false_or]
    · simpa [marks] using h2
theorem held_start (n : Nat) {id : Nat} {a : Act} {w : World} (hn : ops.size = n) (hm : P.follows .mixedOrders = true) (hS : S w.drew)
    (h : S w.drew → wpAnyH P .any ops Q S n (marks n []) a w.drew) : (Code.region id ops true).wp P Q a w :=
  wp_region_held_drew hm hS (fun hs => by rw [hn, marks_zero]; exact h hs)
theorem held_take (i : Nat) (dst : Option Tmp) (v : Value) (fuel : Nat) {n : Nat} {ks : List Nat} {oi : Oper} {a : Act} {w : World} (hi : ops[i]? = some oi) (hd : oi.dst = dst)
    (hs : Region.noSelect ops = true) (hf : Region.free md ops (marks n ks) i = true) (hr : (Region.ready md ops (marks n ks)).contains i = true)
    (hQ : ∀ c a w, Q (.panic c) (a.put dst v) w → Q (.panic c) a w) (hw : Region.wanted oi (yielded ops a.tmps) = true) (hy : ∀ w, S w → (execOp a.eval oi).run P w = .ok (.value v) w) (hS : S w)
    (h : wpAnyH P md ops Q S fuel (marks n (i :: ks)) (a.put dst v) w) : wpAnyH P md ops Q S (fuel + 1) (marks n ks) a w := by
  subst hd
  rw [← marks_succ] at h
  exact wpAnyH_take hi hs hf hr hQ (.inl ⟨hw, hy⟩) hS h
theorem held_skip (i : Nat) (dst : Option Tmp) (fuel : Nat) {n : Nat} {ks : List Nat} {oi : Oper} {a : Act} {w : World} (hi : ops[i]? = some oi) (hd : oi.dst = dst)
    (hs : Region.noSelect ops = true) (hf : Region.free md ops (marks n ks) i = true) (hr : (Region.ready md ops (marks n ks)).contains i = true)
    (hQ : ∀ c a w, Q (.panic c) (a.put dst undef) w → Q (.panic c) a w) (hw : Region.wanted oi (yielded ops a.tmps) = false) (hS : S w)
    (h : wpAnyH P md ops Q S fuel (marks n (i :: ks)) (a.put dst undef) w) : wpAnyH P md ops Q S (fuel + 1) (marks n ks) a w := by
  subst hd
  rw [← marks_succ] at h
  exact wpAnyH_take hi hs hf hr hQ (.inr ⟨hw, rfl⟩) hS h
theorem held_call (i fuel : Nat) {n : Nat} {ks : List Nat} {oi : Oper} {a : Act} {w : World} (hi : ops[i]? = some oi) (hr : Region.ready md ops (marks n ks) = [i])
    (hw : Region.wanted oi (yielded ops a.tmps) = true)
    (h : ∀ K' : Act → World → Prop, Shut (∀ a w, S w → (S w → wpAnyH P md ops Q S fuel (marks n (i :: ks)) a w) → K' a w) → Oper.wp P oi a w K' Q) : wpAnyH P md ops Q S (fuel + 1) (marks n ks) a w :=
  wpAnyH_ready hr (by simp) (AllReadyH.cons hi (fun K' hK => by rw [if_pos hw]; rw [marks_succ] at hK; exact h K' hK) AllReadyH.nil)
end
end Go.Proofs.Yteimfcokobdldaa
