/- A reader in memory; its More, Word, Fail. -/
import Derived.Test.YtfhicmjfifpjkaaLinI
namespace Go.Proofs.Ytfhicmjfifpjkaa
open Go.RowKit
set_option linter.unusedVariables false
/-- a reader of a line, k of whose words are taken; G: the blocks that may change -/
structure RdAt (G : Nat → Prop) (w : World) (r : Nat) (wv cv : Value) (x : LineD) (k : Nat) : Prop where
  var : VarAt w r [.int .i64 x.no, wv, cv, .int .i64 k]
  hG : G r
  rws : ∀ w', Near G w w' → ValRow w' wv (strVals x.ws)
  rcs : ∀ w', Near G w w' → ValRow w' cv (natVals x.cs)
  len : x.ws.length = x.cs.length ∧ x.ws.length ≤ 20
theorem RdAt.ws {G : Nat → Prop} {w : World} {r : Nat} {wv cv : Value} {x : LineD} {k : Nat} (h : RdAt G w r wv cv x k) : ValRow w wv (strVals x.ws) := h.rws w (Near.refl _ _)
theorem RdAt.cs {G : Nat → Prop} {w : World} {r : Nat} {wv cv : Value} {x : LineD} {k : Nat} (h : RdAt G w r wv cv x k) : ValRow w cv (natVals x.cs) := h.rcs w (Near.refl _ _)
theorem RdAt.near {G : Nat → Prop} {w w' : World} {r : Nat} {wv cv : Value} {x : LineD} {k k' : Nat} (h : RdAt G w r wv cv x k) (hN : Near G w w') (hv : VarAt w' r [.int .i64 x.no, wv, cv, .int .i64 k']) : RdAt G w' r wv cv x k' :=
  ⟨hv, h.hG, fun w'' h2 => h.rws w'' (hN.trans h2), fun w'' h2 => h.rcs w'' (hN.trans h2), h.len⟩
theorem RdAt.drewN {G : Nat → Prop} {w : World} {r : Nat} {wv cv : Value} {x : LineD} {k : Nat} (h : RdAt G w r wv cv x k) (m : Nat) : RdAt G (w.drewN m) r wv cv x k := h.near (near_drewN _ _ _) (h.var.drewN m)
theorem RdAt.step {G : Nat → Prop} {w : World} {r : Nat} {wv cv : Value} {x : LineD} {k : Nat} (h : RdAt G w r wv cv x k) (k' : Nat) : RdAt G (w.setCell ⟨r, 3, none⟩ (.int .i64 k')) r wv cv x k' :=
  h.near (near_setCell _ _ _ h.hG) (h.var.set 3 (by simp) _)
theorem more_any (G : Nat → Prop) (w : World) (r : Nat) (wv cv : Value) (x : LineD) (k : Nat) (h : RdAt G w r wv cv x k) (v : Bool) (hv : Hid (decide (k < x.ws.length) = v)) :
    Calls Try.prog 35 #[.pointer (some ⟨r, 0, none⟩)] w fun e w' => e = .returned (.bool v) ∧ ∃ m, w' = w.drewN m := by
  obtain ⟨wa, wc, rfl⟩ := h.ws.shape
  have c1 := h.var.get 1 rfl
  have c3 := h.var.get 3 rfl
  rw [strVals_length] at c1
  clear h
  go_enter Try.func35, Try.ntmps35
  go_wp2_with fail
  go_quiet (fail)
  go_wp2_with fail
  go_ret
  exact ⟨ret_bool hv.out, _, rfl⟩
theorem natVals_get (l : List Nat) (k : Nat) (h : k < l.length) : (natVals l)[k]? = some (.int .i64 (l.getD k 0 : Nat)) := by simp [natVals, h]
def stopV (c l k : Int) : Value := .iface 72 (.agg #[.int .i64 c, .int .i64 l, .int .i64 k])
def colAt (x : LineD) (k : Nat) : Nat := if 0 < k ∧ k ≤ x.cs.length then x.cs.getD (k - 1) 0 else 0
set_option maxHeartbeats 800000 in
theorem fail_any (G : Nat → Prop) (w : World) (r : Nat) (wv cv : Value) (x : LineD) (k : Nat) (h : RdAt G w r wv cv x k) (c : Int) (col : Nat) (hc : Hid (colAt x k = col)) :
    Calls Try.prog 36 #[.pointer (some ⟨r, 0, none⟩), .int .i64 c] w fun e w' => e = .panicked [{ v := stopV c x.no col, recovered := false }] ∧ ∃ m, w' = w.drewN m := by
  obtain ⟨ca, cc, rfl⟩ := h.cs.shape
  have hmx := h.cs.len
  rw [natVals_length] at hmx
  unfold maxLen at hmx
  have HR := Lib.hid h
  have c0 := h.var.get 0 rfl
  have c2 := h.var.get 2 rfl
  have c3 := h.var.get 3 rfl
  rw [natVals_length] at c2
  clear h
  by_cases h0 : 0 < k
  · have hd0 : decide ((0 : Int) < (k : Int)) = true := decide_eq_true (by omega)
    have hd0' : decide (0 < k) = true := decide_eq_true h0
    by_cases hk : k ≤ x.cs.length
    · have hd1 : decide ((k : Int) ≤ (x.cs.length : Int)) = true := decide_eq_true (by omega)
      have hd1' : decide (k ≤ x.cs.length) = true := decide_eq_true hk
      obtain ⟨j, rfl⟩ : ∃ j, k = j + 1 := ⟨k - 1, by omega⟩
      obtain ⟨b, off, rfl, _, hcell⟩ := valRow_cells HR.out.cs j (by rw [natVals_length]; omega)
      have hcj := hcell j (by rw [natVals_length]; omega)
      rw [natVals_get _ _ (by omega)] at hcj
      have hcol : x.cs.getD j 0 = col := by rw [← hc.out]; unfold colAt; rw [if_pos (by omega)]; rfl
      rw [hcol] at hcj
      have j0 : (0 : Int) ≤ (j : Int) := by omega
      have j1 : (j : Int) < (x.cs.length : Int) := by omega
      rw [show ((j + 1 : Nat) : Int) = (j : Int) + 1 from by omega] at c3 hd0 hd1
      have hw1 : IntKind.i64.wrap ((j : Int) + 1 - 1) = (j : Int) := by rw [IntWalk.i64_in _ (by omega)]; omega
      clear hcell hcol
      go_enter Try.func36, Try.ntmps36
      go_wp2_with fail
      go_quiet (fail)
      have e0 : (w.drewN nq).cell? ⟨r, 0, none⟩ = some (.int .i64 x.no) := c0
      have e2 : (w.drewN nq).cell? ⟨r, 2, none⟩ = some (.slice (some ⟨b, off, none⟩) x.cs.length cc) := c2
      have e3 : (w.drewN nq).cell? ⟨r, 3, none⟩ = some (.int .i64 ((j : Int) + 1)) := c3
      have ej : (w.drewN nq).cell? ⟨b, off + j, none⟩ = some (.int .i64 col) := hcj
      obtain ⟨w1, hw1⟩ : ∃ w1, w.drewN nq = w1 := ⟨_, rfl⟩
      obtain ⟨q0, HQ0⟩ : ∃ q0, Hid (w1 = w.drewN q0) := ⟨nq, Lib.hid hw1.symm⟩
      rw [hw1] at e0 e2 e3 ej ⊢
      clear hw1
      clear c0 c2 c3 hcj
      go_wp2_with fail
      go_quiet (fail)
      go_wp2_with fail
      exact ⟨rfl, rfl, q0 + nq, by rw [HQ0.out, World.drewN_drewN]⟩
    · have hd1 : decide ((k : Int) ≤ (x.cs.length : Int)) = false := decide_eq_false (by omega)
      have hd1' : decide (k ≤ x.cs.length) = false := decide_eq_false hk
      have hcol : col = 0 := by rw [← hc.out]; unfold colAt; rw [if_neg (by omega)]
      subst hcol
      go_enter Try.func36, Try.ntmps36
      go_wp2_with fail
      go_quiet (fail)
      go_wp2_with fail
      exact ⟨rfl, rfl, _, rfl⟩
  · have hd0 : decide ((0 : Int) < (k : Int)) = false := decide_eq_false (by omega)
    have hd0' : decide (0 < k) = false := decide_eq_false h0
    have hcol : col = 0 := by rw [← hc.out]; unfold colAt; rw [if_neg (by omega)]
    subst hcol
    go_enter Try.func36, Try.ntmps36
    go_wp2_with fail
    go_quiet (fail)
    go_wp2_with fail
    exact ⟨rfl, rfl, _, rfl⟩
end Go.Proofs.Ytfhicmjfifpjkaa
