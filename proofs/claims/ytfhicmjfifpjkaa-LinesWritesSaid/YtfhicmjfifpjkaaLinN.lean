/- A reader's Word, Is and Number; the reference's Number. -/
import Derived.Test.YtfhicmjfifpjkaaLinM
namespace Go.Proofs.Ytfhicmjfifpjkaa
open Go.RowKit
set_option linter.unusedVariables false
/-- a world in which a reader has moved on -/
structure Moved (G : Nat → Prop) (w : World) (r : Nat) (wv cv : Value) (x : LineD) (k : Nat) (w' : World) : Prop where
  rd : RdAt G w' r wv cv x k
  kept : ∃ m, w' = (w.setCell ⟨r, 3, none⟩ (.int .i64 k)).drewN m
theorem rword_no (G : Nat → Prop) (w : World) (r : Nat) (wv cv : Value) (x : LineD) (k : Nat) (h : RdAt G w r wv cv x k) (hk : ¬ k < x.ws.length) :
    Calls Try.prog 20 #[.pointer (some ⟨r, 0, none⟩)] w fun e w' => e = .panicked [{ v := stopV 1 x.no 0, recovered := false }] ∧ ∃ m, w' = w.drewN m := by
  have HR := Lib.hid h
  have c0 := h.var.get 0 rfl
  clear h
  go_enter Try.func20, Try.ntmps20
  go_wp2_with fail
  refine (more_any G w r wv cv x k HR.out false (Lib.hid (decide_eq_false hk))).mono ?_
  rintro e w1 ⟨rfl, m, rfl⟩
  go_wp2_with fail
  exact ⟨rfl, rfl, m, rfl⟩
set_option maxHeartbeats 800000 in
theorem rword_yes (G : Nat → Prop) (w : World) (r : Nat) (wv cv : Value) (x : LineD) (k : Nat) (h : RdAt G w r wv cv x k) (hk : k < x.ws.length) (s : List UInt8) (hs : Hid (x.ws.getD k [] = s)) :
    Calls Try.prog 20 #[.pointer (some ⟨r, 0, none⟩)] w fun e w' => e = .returned (.string ⟨s.toArray⟩) ∧ Moved G w r wv cv x (k + 1) w' := by
  have HR := Lib.hid h
  have hl := h.len.2
  clear h
  go_enter Try.func20, Try.ntmps20
  go_wp2_with fail
  refine (more_any G w r wv cv x k HR.out true (Lib.hid (decide_eq_true hk))).mono ?_
  rintro e w1 ⟨rfl, m, rfl⟩
  have HR1 := Lib.hid (HR.out.drewN m)
  have HR2 := Lib.hid (HR1.out.step (k + 1))
  obtain ⟨wa, wc, hsh⟩ := HR2.out.ws.shape
  have c3 := HR1.out.var.get 3 rfl
  have z3 := HR1.out.var.free 3
  have d1 := HR2.out.var.get 1 rfl
  have d3 := HR2.out.var.get 3 rfl
  rw [hsh, strVals_length] at d1
  obtain ⟨b, off, ha, hbw, hcell⟩ := valRow_cells (show ValRow _ (.slice wa _ wc) _ from hsh ▸ HR2.out.ws) k (by rw [strVals_length]; exact hk)
  subst ha
  have hc := hcell k (by rw [strVals_length]; exact hk)
  rw [strVals_get _ _ hk, hs.out] at hc
  rw [show (((k + 1 : Nat)) : Int) = (k : Int) + 1 from by omega] at d1 d3 hc
  have HW : Hid ((w.setCell ⟨r, 3, none⟩ (.int .i64 ((k + 1 : Nat) : Int))).drewN m = ((w.drewN m).setCell ⟨r, 3, none⟩ (.int .i64 ((k : Int) + 1)))) := Lib.hid (by rw [show (((k + 1 : Nat)) : Int) = (k : Int) + 1 from by omega]; rfl)
  rw [show (((k + 1 : Nat)) : Int) = (k : Int) + 1 from by omega] at HR2
  obtain ⟨w2, hw2⟩ : ∃ w2, (w.drewN m).setCell ⟨r, 3, none⟩ (.int .i64 ((k : Int) + 1)) = w2 := ⟨_, rfl⟩
  have hw2' : (w.setCell ⟨r, 3, none⟩ (.int .i64 ((k : Int) + 1))).drewN m = w2 := hw2
  rw [hw2] at d1 d3 hc HR2 HW
  have k0 : (0 : Int) ≤ (k : Int) := by omega
  have k1 : (k : Int) < (x.ws.length : Int) := by omega
  have hkw : IntKind.i64.wrap ((k : Int) + 1 - 1) = (k : Int) := by rw [IntWalk.i64_in _ (by omega)]; omega
  have HW2 := Lib.hid hw2
  have HW2' := Lib.hid hw2'
  clear hcell hsh hw2 hw2'
  go_wp2_with fail
  rw [HW2.out]
  go_quiet (fail)
  go_wp2_with fail
  go_ret
  refine ⟨rfl, ?_, m + nq, ?_⟩
  · have := HR2.out.drewN nq
    exact this
  · rw [← World.drewN_drewN, HW.out]
/-- digits -/
def digC (c : Nat) : Bool := decide (48 ≤ c) && decide (c ≤ 57)
def numV (l : List UInt8) : Nat := l.foldl (fun n c => 10 * n + (c.toNat - 48)) 0
/-- may it be a number by its length and its first digit? -/
def numFront (l : List UInt8) : Bool := decide (1 ≤ l.length) && decide (l.length ≤ 9) && !(decide (1 < l.length) && by8 l 0 == 48)
def numL (l : List UInt8) : Option Nat := if numFront l = true ∧ l.all (fun c => digC c.toNat) = true then some (numV l) else none
theorem digC_yes {c : Nat} (h : digC c = true) : 48 ≤ c ∧ c ≤ 57 := by simpa [digC] using h
theorem digC_no {c : Nat} (h : digC c = false) : c < 48 ∨ 57 < c := by simp [digC] at h; omega
theorem numV_take (l : List UInt8) (k : Nat) (h : k < l.length) : numV (l.take (k + 1)) = 10 * numV (l.take k) + (by8 l k - 48) := by
  rw [List.take_succ_eq_append_getElem h]
  unfold numV
  rw [List.foldl_append, by8_mem l k h]
  rfl
theorem numV_le (l : List UInt8) : ∀ k, k ≤ l.length → (∀ i, i < k → digC (by8 l i) = true) → numV (l.take k) + 1 ≤ 10 ^ k := by
  intro k
  induction k with
  | zero => intro _ _; simp [numV]
  | succ k ih =>
    intro hk hd
    have := ih (by omega) (fun i hi => hd i (by omega))
    have hc := digC_yes (hd k (by omega))
    rw [numV_take l k (by omega), Nat.pow_succ]
    omega
theorem all_dig (l : List UInt8) : l.all (fun c => digC c.toNat) = true ↔ ∀ i, i < l.length → digC (by8 l i) = true := by
  rw [List.all_eq_true]
  constructor
  · intro h i hi
    rw [by8_mem l i hi]; exact h _ (List.getElem_mem _)
  · intro h c hc
    obtain ⟨i, hi, rfl⟩ := List.getElem_of_mem hc
    rw [← by8_mem l i hi]; exact h i hi
theorem numL_front {l : List UInt8} (h : numFront l = false) : numL l = none := by unfold numL; rw [if_neg (by simp [h])]
theorem numL_stop {l : List UInt8} {k : Nat} (hk : k < l.length) (h : digC (by8 l k) = false) : numL l = none := by
  unfold numL
  rw [if_neg]
  rintro ⟨_, h2⟩
  have := (all_dig l).1 h2 k hk
  rw [h] at this; cases this
theorem numL_yes {l : List UInt8} (h : numFront l = true) (hd : ∀ i, i < l.length → digC (by8 l i) = true) : numL l = some (numV l) := by
  unfold numL; rw [if_pos ⟨h, (all_dig l).2 hd⟩]
end Go.Proofs.Ytfhicmjfifpjkaa
