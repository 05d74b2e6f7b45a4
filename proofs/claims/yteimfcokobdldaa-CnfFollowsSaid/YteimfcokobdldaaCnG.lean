/- What variables are: of, set, unit. -/
import Derived.Test.YteimfcokobdldaaCnF
namespace Go.Proofs.Yteimfcokobdldaa
open Go.RowKit
set_option linter.unusedVariables false
def i8Vals (V : List Int) : List Value := V.map (Value.int .i8)
theorem i8Vals_length (V : List Int) : (i8Vals V).length = V.length := by simp [i8Vals]
theorem i8Vals_get (V : List Int) (k : Nat) (h : k < V.length) : (i8Vals V)[k]? = some (.int .i8 (V.getD k 0)) := by simp [i8Vals, h]
theorem i8Vals_set (V : List Int) (k : Nat) (x : Int) : (i8Vals V).set k (.int .i8 x) = i8Vals (V.set k x) := by simp [i8Vals, List.map_set]
/-- what variables are, in memory: each -1, 0 or 1 -/
structure ValsAt (w : World) (b : Nat) (V : List Int) : Prop where
  var : VarAt w b (i8Vals V)
  small : ∀ v ∈ V, -1 ≤ v ∧ v ≤ 1
theorem ValsAt.at_ {w : World} {b : Nat} {V : List Int} (h : ValsAt w b V) (k : Nat) (hk : k < V.length) : w.cell? ⟨b, k, none⟩ = some (.int .i8 (V.getD k 0)) ∧ -1 ≤ V.getD k 0 ∧ V.getD k 0 ≤ 1 := by
  have e : V.getD k 0 = V[k] := by simp [hk]
  exact ⟨h.var.get k (i8Vals_get V k hk), by rw [e]; exact h.small _ (List.getElem_mem hk)⟩
/-- what a literal is -/
def ofV (V : List Int) (x : Int) : Int := if x < 0 then -(V.getD x.natAbs 0) else V.getD x.natAbs 0
theorem ofV_small {w : World} {b : Nat} {V : List Int} (h : ValsAt w b V) (x : Int) : -1 ≤ ofV V x ∧ ofV V x ≤ 1 := by
  have hv : -1 ≤ V.getD x.natAbs 0 ∧ V.getD x.natAbs 0 ≤ 1 := by
    by_cases hk : x.natAbs < V.length
    · exact (h.at_ _ hk).2
    · simp [List.getD, List.getElem?_eq_none (Nat.le_of_not_lt hk)]
  unfold ofV
  split <;> omega
theorem of_any (b n : Nat) (V : List Int) (x : Int) (w : World) (h : ValsAt w b V) (hn : V.length = n) (h0 : x ≠ 0) (hx : x.natAbs < n) (hb : n ≤ 1000000) (v : Int) (hv : Hid (ofV V x = v)) :
    Calls Try.prog 52 #[.slice (some ⟨b, 0, none⟩) n n, .int .i64 x] w fun e w' => e = .returned (.int .i8 v) ∧ w = w' := by
  obtain ⟨j, hj⟩ : ∃ j, x.natAbs = j := ⟨_, rfl⟩
  obtain ⟨hc, hs1, hs2⟩ := h.at_ j (by omega)
  obtain ⟨u, hu⟩ : ∃ u, V.getD j 0 = u := ⟨_, rfl⟩
  rw [hu] at hc hs1 hs2
  have j0 : (0 : Int) ≤ (j : Int) := by omega
  have j1 : (j : Int) < (n : Int) := by omega
  by_cases hneg : x < 0
  · have hd : decide (x < 0) = true := decide_eq_true hneg
    obtain rfl : x = -(j : Int) := by omega
    have HV : Hid (-u = v) := Lib.hid (by rw [← hv.out]; unfold ofV; rw [if_pos hneg, hj, hu])
    have hnn : -(-(j : Int)) = (j : Int) := by omega
    clear hj hu hv h
    go_enter Try.func52, Try.ntmps52
    go_wp2_with fail
    go_ret
    exact ⟨ret_int HV.out, rfl⟩
  · have hd : decide (x < 0) = false := decide_eq_false hneg
    obtain rfl : x = (j : Int) := by omega
    have HV : Hid (u = v) := Lib.hid (by rw [← hv.out]; unfold ofV; rw [if_neg hneg, hj, hu])
    clear hj hu hv h
    go_enter Try.func52, Try.ntmps52
    go_wp2_with fail
    go_ret
    exact ⟨ret_int HV.out, rfl⟩
/-- a literal made true -/
def setV (V : List Int) (x : Int) : List Int := V.set x.natAbs (if x < 0 then -1 else 1)
theorem ValsAt.set {w : World} {b : Nat} {V : List Int} (h : ValsAt w b V) (k : Nat) (hk : k < V.length) (u : Int) (hu : -1 ≤ u ∧ u ≤ 1) : ValsAt (w.setCell ⟨b, k, none⟩ (.int .i8 u)) b (V.set k u) := by
  refine ⟨?_, fun v hv => ?_⟩
  · have := h.var.set k (by rw [i8Vals_length]; exact hk) (.int .i8 u)
    rwa [i8Vals_set] at this
  · rcases List.mem_or_eq_of_mem_set hv with hv | rfl
    · exact h.small v hv
    · exact hu
theorem set_any (b n : Nat) (V : List Int) (x : Int) (w : World) (h : ValsAt w b V) (hn : V.length = n) (h0 : x ≠ 0) (hx : x.natAbs < n) (hb : n ≤ 1000000) :
    Calls Try.prog 53 #[.slice (some ⟨b, 0, none⟩) n n, .int .i64 x] w fun e w' => e = .returned (.tuple #[]) ∧ ValsAt w' b (setV V x) ∧ Near (fun k => k = b) w w' := by
  obtain ⟨j, hj⟩ : ∃ j, x.natAbs = j := ⟨_, rfl⟩
  obtain ⟨hc, hs1, hs2⟩ := h.at_ j (by omega)
  have hz := h.var.free j
  have HS1 := Lib.hid (h.set j (by omega) 1 (by omega))
  have HVI : Hid (varI x = (j : Int)) := Lib.hid (by unfold varI; omega)
  have j0 : (0 : Int) ≤ (j : Int) := by omega
  have j1 : (j : Int) < (n : Int) := by omega
  have HN := Lib.hid (near_setCell w ⟨b, j, none⟩ (.int .i8 1) (F := fun k => k = b) rfl)
  have HJ := Lib.hid hj
  by_cases hneg : x < 0
  · have hd : decide (x < 0) = true := decide_eq_true hneg
    have c1 := HS1.out.var.get j (i8Vals_get _ j (by simp; omega))
    have z1 := HS1.out.var.free j
    have HS2 : Hid (ValsAt ((w.setCell ⟨b, j, none⟩ (.int .i8 1)).setCell ⟨b, j, none⟩ (.int .i8 (-1))) b (setV V x)) := Lib.hid (by
      have := HS1.out.set j (by simp; omega) (-1) (by omega)
      rw [List.set_set] at this
      unfold setV
      rw [hj, if_pos hneg]; exact this)
    have hxr1 : -1000000 ≤ x := by omega
    have hxr2 : x ≤ 1000000 := by omega
    have hnx : -x = (j : Int) := by omega
    have HNX := Lib.hid hnx
    obtain rfl : x = -(j : Int) := by omega
    have hnn : -(-(j : Int)) = (j : Int) := by omega
    clear hj h hnx
    go_enter Try.func53, Try.ntmps53
    go_wp2_with fail
    refine (var_any _ _ (by omega) (by omega)).mono ?_
    rintro e w1 ⟨rfl, rfl⟩
    rw [HVI.out]
    go_wp2_with fail
    go_end0
    exact ⟨rfl, HS2.out, HN.out.trans (near_setCell _ _ _ rfl)⟩
  · have hd : decide (x < 0) = false := decide_eq_false hneg
    have HS2 : Hid (ValsAt (w.setCell ⟨b, j, none⟩ (.int .i8 1)) b (setV V x)) := Lib.hid (by
      unfold setV
      rw [hj, if_neg hneg]; exact HS1.out)
    obtain rfl : x = (j : Int) := by omega
    clear hj h
    go_enter Try.func53, Try.ntmps53
    go_wp2_with fail
    refine (var_any _ _ (by omega) (by omega)).mono ?_
    rintro e w1 ⟨rfl, rfl⟩
    rw [HVI.out]
    go_wp2_with fail
    go_end0
    exact ⟨rfl, HS2.out, HN.out⟩
/-- what a clause makes true: a literal, or nothing (0); false: all are false -/
def unitL (V : List Int) : List Int → Int → Int × Bool
  | [], last => (last, last != 0)
  | x :: t, last => if 0 < ofV V x then (0, true) else if ofV V x = 0 ∧ last ≠ 0 ∧ x ≠ last then (0, true) else if ofV V x = 0 then unitL V t x else unitL V t last
theorem unitL_at (V c : List Int) (k : Nat) (last : Int) (h : k < c.length) :
    unitL V (c.drop k) last = if 0 < ofV V (c.getD k 0) then (0, true) else if ofV V (c.getD k 0) = 0 ∧ last ≠ 0 ∧ c.getD k 0 ≠ last then (0, true) else if ofV V (c.getD k 0) = 0 then unitL V (c.drop (k + 1)) (c.getD k 0) else unitL V (c.drop (k + 1)) last := by
  have e : c.getD k 0 = c[k] := by simp [h]
  rw [List.drop_eq_getElem_cons h, e]; rfl
theorem unitL_end (V c : List Int) (last : Int) : unitL V (c.drop c.length) last = (last, last != 0) := by rw [List.drop_length]; rfl
end Go.Proofs.Yteimfcokobdldaa
