/- Slices of integers as lists; slices of such slices; the reference's Ints at what is the same. -/
import Derived.Test.YteimfcokobdldaaApp
import Derived.Test.YteimfcokobdldaaChecked
import Derived.WalkKit
import Derived.WalkLawsBesides
import Derived.WalkSpells
import Derived.Outline
import Derived.Handy
import Derived.Deep.QuietTactic
import Derived.BigQuiet
import Derived.Lib.Hide
import Derived.IntWalk
namespace Go.Proofs.Yteimfcokobdldaa
open Go.RowKit Go.ChangeShapes Go.WideShapes Go.Deep
set_option linter.unusedVariables false
theorem ret_int {k : IntKind} {a b : Int} (h : a = b) : Ending.returned (.int k a) = .returned (.int k b) := by rw [h]
theorem ret_bool {a b : Bool} (h : a = b) : Ending.returned (.bool a) = .returned (.bool b) := by rw [h]
def intVals (l : List Int) : List Value := l.map (Value.int .i64)
theorem intVals_length (l : List Int) : (intVals l).length = l.length := by simp [intVals]
theorem intVals_get (l : List Int) (k : Nat) (h : k < l.length) : (intVals l)[k]? = some (.int .i64 (l.getD k 0)) := by simp [intVals, h]
theorem intVals_one (l : List Int) : ∀ u ∈ intVals l, u.oneCell' = true := by
  intro u hu
  obtain ⟨s, _, rfl⟩ := List.mem_map.1 hu
  rfl
theorem intVals_app (a b : List Int) : intVals (a ++ b) = intVals a ++ intVals b := by simp [intVals]
theorem ValRow.drewN {w : World} {v : Value} {l : List Value} (h : ValRow w v l) (q : Nat) : ValRow (w.drewN q) v l := h
theorem below_drewN' {B : Nat} {w w' : World} (h : Below B w w') (m : Nat) : Below B w (w'.drewN m) := ⟨h.os, h.tape, h.output, h.size, h.block⟩
/-- an int of a slice, and where it lies -/
theorem int_at {w : World} {a : Option Addr} {cap : Nat} {l : List Int} (h : ValRow w (.slice a l.length cap) (intVals l)) (k : Nat) (hk : k < l.length) :
    ∃ b off, a = some ⟨b, off, none⟩ ∧ b < w.heap.size ∧ w.cell? ⟨b, off + k, none⟩ = some (.int .i64 (l.getD k 0)) := by
  rcases h with ⟨a', cap', h1, h2⟩ | ⟨b, off, cap', h1, h2, h3, h4, h5⟩
  · have := congrArg List.length h2
    rw [intVals_length] at this
    simp at this
    rw [this] at hk; simp at hk
  · simp only [Value.slice.injEq] at h1
    exact ⟨b, off, h1.1, h4, by rw [h5 k (by rw [intVals_length]; exact hk), intVals_get _ _ hk]⟩
/-- an element: a slice of ints -/
def IntsC (w : World) (cs : List Value) (x : List Int) : Prop := ∃ v, cs = [v] ∧ ValRow w v (intVals x) ∧ ∀ y ∈ x, -9223372036854775808 ≤ y ∧ y ≤ 9223372036854775807
theorem intsC_lasts : Lasts IntsC := by
  rintro w w' cs x hb ⟨v, h1, h2, h3⟩
  exact ⟨v, h1, h2.below hb, h3⟩
/-- a row of a slice of slices -/
theorem ints_row {w : World} {a : Option Addr} {cap : Nat} {LL : List (List Int)} (h : RowOf 1 IntsC w (.slice a LL.length cap) LL) (i : Nat) (hi : i < LL.length) :
    ∃ b off va vc, a = some ⟨b, off, none⟩ ∧ b < w.heap.size ∧ w.cell? ⟨b, off + i, none⟩ = some (.slice va (LL.getD i []).length vc) ∧ ValRow w (.slice va (LL.getD i []).length vc) (intVals (LL.getD i [])) ∧ (∀ y ∈ LL.getD i [], -9223372036854775808 ≤ y ∧ y ≤ 9223372036854775807) := by
  obtain ⟨b, off, ha, hb, cs, ⟨_, hc⟩, v, rfl, hr, hm⟩ := h.at_ i hi
  have e : LL.getD i [] = LL[i] := by simp [hi]
  rw [e]
  obtain ⟨va, vc, rfl⟩ := hr.shape
  rw [intVals_length] at hr hc
  refine ⟨b, off, va, vc, ha, hb, ?_, hr, hm⟩
  have := hc 0 (by omega)
  simpa using this
set_option maxHeartbeats 800000 in
theorem ints_same (a b : Value) (A : List Int) (w : World) (ha : ValRow w a (intVals A)) (hb : ValRow w b (intVals A)) :
    Calls Try.prog 17 #[a, b] w fun e w' => e = .returned (.bool true) ∧ ∃ m, w' = w.drewN m := by
  obtain ⟨aa, ac, rfl⟩ := ha.shape
  obtain ⟨ba, bc, rfl⟩ := hb.shape
  have hmax := ha.len
  rw [intVals_length] at hmax ⊢
  rw [intVals_length] at ha hb
  unfold maxLen at hmax
  have HA := Lib.hid ha
  have HB := Lib.hid hb
  have hne : (A.length != A.length) = false := by simp
  have hne2 : ((A.length : Int) != (A.length : Int)) = false := by simp
  clear ha hb
  go_enter Try.func17, Try.ntmps17
  go_wp2_with fail
  go_loopw [5] (fun i wr => ∃ k : Nat, i = .int .i64 k ∧ k ≤ A.length ∧ ∃ m, wr = w.drewN m) (fun i _ => A.length - (intOf i).toNat)
  case atStart => exact ⟨0, rfl, Nat.zero_le _, 0, rfl⟩
  case round =>
    obtain ⟨k, rfl, hk, m, rfl⟩ := hrel
    by_cases hlt : k < A.length
    · obtain ⟨b1, o1, rfl, _, hc1⟩ := valRow_cells HA.out k (by rw [intVals_length]; exact hlt)
      obtain ⟨b2, o2, rfl, _, hc2⟩ := valRow_cells HB.out k (by rw [intVals_length]; exact hlt)
      have c1 := hc1 k (by rw [intVals_length]; exact hlt)
      have c2 := hc2 k (by rw [intVals_length]; exact hlt)
      rw [intVals_get _ _ hlt] at c1 c2
      clear hc1 hc2
      obtain ⟨x, hx⟩ : ∃ x, A.getD k 0 = x := ⟨_, rfl⟩
      rw [hx] at c1 c2
      clear hx
      have d1 : (w.drewN m).cell? ⟨b1, o1 + k, none⟩ = some (.int .i64 x) := c1
      have d2 : (w.drewN m).cell? ⟨b2, o2 + k, none⟩ = some (.int .i64 x) := c2
      obtain ⟨wm, HW⟩ : ∃ wm, Hid (w.drewN m = wm) := ⟨_, rfl⟩
      rw [HW.out] at d1 d2 ⊢
      have k0 : (0 : Int) ≤ (k : Int) := by omega
      have k1 : (k : Int) < (A.length : Int) := by omega
      have hd : decide (k < A.length) = true := decide_eq_true hlt
      have hxx : (x != x) = false := by simp
      clear c1 c2
      go_wp2_with fail
      go_quiet (fail)
      go_wp2_with fail
      go_roundw
      case rel => exact ⟨k + 1, by go_num, by omega, m + nq, by rw [← HW.out, World.drewN_drewN]⟩
      case measure => simp [intOf]; omega
    · have hd : decide (k < A.length) = false := decide_eq_false hlt
      go_wp2_with fail
      go_ret
      exact ⟨rfl, m, rfl⟩
end Go.Proofs.Yteimfcokobdldaa
