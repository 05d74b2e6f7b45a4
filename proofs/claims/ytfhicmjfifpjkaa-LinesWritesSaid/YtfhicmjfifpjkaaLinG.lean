/- The references' Texts and Ints, the law's same and fault: at what is the same. -/
import Derived.Test.YtfhicmjfifpjkaaLinE
namespace Go.Proofs.Ytfhicmjfifpjkaa
open Go.RowKit
set_option linter.unusedVariables false
def intVals (l : List Int) : List Value := l.map (Value.int .i64)
theorem intVals_length (l : List Int) : (intVals l).length = l.length := by simp [intVals]
theorem natVals_ints (l : List Nat) : natVals l = intVals (l.map fun n : Nat => (n : Int)) := by simp [natVals, intVals, Function.comp_def]
theorem strVals_get (l : List (List UInt8)) (k : Nat) (h : k < l.length) : (strVals l)[k]? = some (.string ⟨(l.getD k []).toArray⟩) := by simp [strVals, h]
theorem intVals_get (l : List Int) (k : Nat) (h : k < l.length) : (intVals l)[k]? = some (.int .i64 (l.getD k 0)) := by simp [intVals, h]
theorem ValRow.drewN {w : World} {v : Value} {l : List Value} (h : ValRow w v l) (q : Nat) : ValRow (w.drewN q) v l := h
set_option maxHeartbeats 800000 in
theorem texts_same (a b : Value) (A : List (List UInt8)) (w : World) (ha : ValRow w a (strVals A)) (hb : ValRow w b (strVals A)) :
    Calls Try.prog 12 #[a, b] w fun e w' => e = .returned (.bool true) ∧ ∃ m, w' = w.drewN m := by
  obtain ⟨aa, ac, rfl⟩ := ha.shape
  obtain ⟨ba, bc, rfl⟩ := hb.shape
  have hmax := ha.len
  rw [strVals_length] at hmax ⊢
  rw [strVals_length] at ha hb
  unfold maxLen at hmax
  have HA := Lib.hid ha
  have HB := Lib.hid hb
  have hne : (A.length != A.length) = false := by simp
  have hne2 : ((A.length : Int) != (A.length : Int)) = false := by simp
  clear ha hb
  go_enter Try.func12, Try.ntmps12
  go_wp2_with fail
  go_loopw [5] (fun i wr => ∃ k : Nat, i = .int .i64 k ∧ k ≤ A.length ∧ ∃ m, wr = w.drewN m) (fun i _ => A.length - (intOf i).toNat)
  case atStart => exact ⟨0, rfl, Nat.zero_le _, 0, rfl⟩
  case round =>
    obtain ⟨k, rfl, hk, m, rfl⟩ := hrel
    by_cases hlt : k < A.length
    · obtain ⟨b1, o1, rfl, _, hc1⟩ := valRow_cells HA.out k (by rw [strVals_length]; exact hlt)
      obtain ⟨b2, o2, rfl, _, hc2⟩ := valRow_cells HB.out k (by rw [strVals_length]; exact hlt)
      have c1 := hc1 k (by rw [strVals_length]; exact hlt)
      have c2 := hc2 k (by rw [strVals_length]; exact hlt)
      rw [strVals_get _ _ hlt] at c1 c2
      clear hc1 hc2
      obtain ⟨x, hx⟩ : ∃ x, A.getD k [] = x := ⟨_, rfl⟩
      rw [hx] at c1 c2
      clear hx
      have d1 : (w.drewN m).cell? ⟨b1, o1 + k, none⟩ = some (.string ⟨x.toArray⟩) := c1
      have d2 : (w.drewN m).cell? ⟨b2, o2 + k, none⟩ = some (.string ⟨x.toArray⟩) := c2
      obtain ⟨wm, HW⟩ : ∃ wm, Hid (w.drewN m = wm) := ⟨_, rfl⟩
      rw [HW.out] at d1 d2 ⊢
      have k0 : (0 : Int) ≤ (k : Int) := by omega
      have k1 : (k : Int) < (A.length : Int) := by omega
      have hd : decide (k < A.length) = true := decide_eq_true hlt
      have hxx : (x != x) = false := by simp
      clear c1 c2
      go_wp2_with fail
      go_quiet (fail)
      go_wp2_with fail
      go_roundw
      case rel => exact ⟨k + 1, by go_num, by omega, m + nq, by rw [← HW.out, World.drewN_drewN]⟩
      case measure => simp [intOf]; omega
    · have hd : decide (k < A.length) = false := decide_eq_false hlt
      go_wp2_with fail
      go_ret
      exact ⟨rfl, m, rfl⟩
set_option maxHeartbeats 800000 in
theorem ints_same (a b : Value) (A : List Int) (w : World) (ha : ValRow w a (intVals A)) (hb : ValRow w b (intVals A)) :
    Calls Try.prog 31 #[a, b] w fun e w' => e = .returned (.bool true) ∧ ∃ m, w' = w.drewN m := by
  obtain ⟨aa, ac, rfl⟩ := ha.shape
  obtain ⟨ba, bc, rfl⟩ := hb.shape
  have hmax := ha.len
  rw [intVals_length] at hmax ⊢
  rw [intVals_length] at ha hb
  unfold maxLen at hmax
  have HA := Lib.hid ha
  have HB := Lib.hid hb
  have hne : (A.length != A.length) = false := by simp
  have hne2 : ((A.length : Int) != (A.length : Int)) = false := by simp
  clear ha hb
  go_enter Try.func31, Try.ntmps31
  go_wp2_with fail
  go_loopw [5] (fun i wr => ∃ k : Nat, i = .int .i64 k ∧ k ≤ A.length ∧ ∃ m, wr = w.drewN m) (fun i _ => A.length - (intOf i).toNat)
  case atStart => exact ⟨0, rfl, Nat.zero_le _, 0, rfl⟩
  case round =>
    obtain ⟨k, rfl, hk, m, rfl⟩ := hrel
    by_cases hlt : k < A.length
    · obtain ⟨b1, o1, rfl, _, hc1⟩ := valRow_cells HA.out k (by rw [intVals_length]; exact hlt)
      obtain ⟨b2, o2, rfl, _, hc2⟩ := valRow_cells HB.out k (by rw [intVals_length]; exact hlt)
      have c1 := hc1 k (by rw [intVals_length]; exact hlt)
      have c2 := hc2 k (by rw [intVals_length]; exact hlt)
      rw [intVals_get _ _ hlt] at c1 c2
      clear hc1 hc2
      obtain ⟨x, hx⟩ : ∃ x, A.getD k 0 = x := ⟨_, rfl⟩
      rw [hx] at c1 c2
      clear hx
      have d1 : (w.drewN m).cell? ⟨b1, o1 + k, none⟩ = some (.int .i64 x) := c1
      have d2 : (w.drewN m).cell? ⟨b2, o2 + k, none⟩ = some (.int .i64 x) := c2
      obtain ⟨wm, HW⟩ : ∃ wm, Hid (w.drewN m = wm) := ⟨_, rfl⟩
      rw [HW.out] at d1 d2 ⊢
      have k0 : (0 : Int) ≤ (k : Int) := by omega
      have k1 : (k : Int) < (A.length : Int) := by omega
      have hd : decide (k < A.length) = true := decide_eq_true hlt
      have hxx : (x != x) = false := by simp
      clear c1 c2
      go_wp2_with fail
      go_quiet (fail)
      go_wp2_with fail
      go_roundw
      case rel => exact ⟨k + 1, by go_num, by omega, m + nq, by rw [← HW.out, World.drewN_drewN]⟩
      case measure => simp [intOf]; omega
    · have hd : decide (k < A.length) = false := decide_eq_false hlt
      go_wp2_with fail
      go_ret
      exact ⟨rfl, m, rfl⟩
theorem fault_any (c l k : Int) (w : World) : Calls Try.prog 16 #[.agg #[.int .i64 c, .int .i64 l, .int .i64 k]] w fun e w' => e = .returned (.agg #[.int .i64 c, .int .i64 l, .int .i64 k]) ∧ Below w.heap.size w w' := by
  go_enter Try.func16, Try.ntmps16
  go_wp2_with fail
  refine bodyPost_ret (v := .agg #[.int .i64 c, .int .i64 l, .int .i64 k]) (by simp [results, Try.results16, go_sem]) rfl ⟨rfl, ?_⟩
  exact ((Below.refl _ _).alloc (Nat.le_refl _) _).alloc (by simp) _
set_option maxRecDepth 1000000 in
set_option maxHeartbeats 3200000 in
theorem same_any (a b : Value) (L : List LineD) (w : World) (ha : RowOf 3 LineC w a L) (hb : RowOf 3 LineC w b L) :
    Calls Try.prog 17 #[a, b] w fun e w' => e = .returned (.bool true) ∧ ∃ m, w' = w.drewN m := by
  obtain ⟨aa, ac, rfl⟩ := ha.shape
  obtain ⟨ba, bc, rfl⟩ := hb.shape
  have hmax := ha.len
  unfold maxLen at hmax
  have HA := Lib.hid ha
  have HB := Lib.hid hb
  have hne : (L.length != L.length) = false := by simp
  have hne2 : ((L.length : Int) != (L.length : Int)) = false := by simp
  clear ha hb
  go_enter Try.func17, Try.ntmps17
  go_wp2_with fail
  go_loopw [5] (fun i wr => ∃ k : Nat, i = .int .i64 k ∧ k ≤ L.length ∧ ∃ m, wr = w.drewN m) (fun i _ => L.length - (intOf i).toNat)
  case atStart => exact ⟨0, rfl, Nat.zero_le _, 0, rfl⟩
  case round =>
    obtain ⟨k, rfl, hk, m, rfl⟩ := hrel
    by_cases hlt : k < L.length
    · obtain ⟨b1, o1, rfl, _, cs1, ⟨hl1, hc1⟩, v1, u1, rfl, hv1, hu1⟩ := HA.out.at_ k hlt
      obtain ⟨b2, o2, rfl, _, cs2, ⟨hl2, hc2⟩, v2, u2, rfl, hv2, hu2⟩ := HB.out.at_ k hlt
      obtain ⟨x, hx⟩ : ∃ x, L[k] = x := ⟨_, rfl⟩
      rw [hx] at hc1 hc2 hv1 hv2 hu1 hu2
      have d0 : (w.drewN m).cell? ⟨b1, o1 + k * 3, none⟩ = some (.int .i64 x.no) := hc1 0 (by omega)
      have d1 : (w.drewN m).cell? ⟨b1, o1 + k * 3 + 1, none⟩ = some v1 := hc1 1 (by omega)
      have d2 : (w.drewN m).cell? ⟨b1, o1 + k * 3 + 2, none⟩ = some u1 := hc1 2 (by omega)
      have e0 : (w.drewN m).cell? ⟨b2, o2 + k * 3, none⟩ = some (.int .i64 x.no) := hc2 0 (by omega)
      have e1 : (w.drewN m).cell? ⟨b2, o2 + k * 3 + 1, none⟩ = some v2 := hc2 1 (by omega)
      have e2 : (w.drewN m).cell? ⟨b2, o2 + k * 3 + 2, none⟩ = some u2 := hc2 2 (by omega)
      rw [natVals_ints] at hu1 hu2
      have HV1 := Lib.hid hv1
      have HV2 := Lib.hid hv2
      have HU1 := Lib.hid hu1
      have HU2 := Lib.hid hu2
      clear hx hc1 hc2 hv1 hv2 hu1 hu2 hl1 hl2
      obtain ⟨wm, HW⟩ : ∃ wm, Hid (w.drewN m = wm) := ⟨_, rfl⟩
      rw [HW.out] at d0 d1 d2 e0 e1 e2 ⊢
      have HWV1 : Hid (ValRow wm v1 (strVals x.ws)) := by rw [← HW.out]; exact HV1
      have HWV2 : Hid (ValRow wm v2 (strVals x.ws)) := by rw [← HW.out]; exact HV2
      have HWU1 : Hid (ValRow wm u1 (intVals (x.cs.map fun n : Nat => (n : Int)))) := by rw [← HW.out]; exact HU1
      have HWU2 : Hid (ValRow wm u2 (intVals (x.cs.map fun n : Nat => (n : Int)))) := by rw [← HW.out]; exact HU2
      have k0 : (0 : Int) ≤ (k : Int) := by omega
      have k1 : (k : Int) < (L.length : Int) := by omega
      have hd : decide (k < L.length) = true := decide_eq_true hlt
      have hnn : ((x.no : Int) != (x.no : Int)) = false := by simp
      have hnn2 : (x.no != x.no) = false := by simp
      clear HV1 HV2 HU1 HU2
      go_wp2_with fail
      go_quiet (first | (go_at_call 12; exact Calls.quiet_of (texts_same v1 v2 x.ws _ (HWV1.out.drewN _) (HWV2.out.drewN _))) | (go_at_call 31; exact Calls.quiet_of (ints_same u1 u2 _ _ (HWU1.out.drewN _) (HWU2.out.drewN _))))
      go_wp2_with fail
      go_roundw
      case rel => exact ⟨k + 1, by go_num, by omega, m + nq, by rw [← HW.out, World.drewN_drewN]⟩
      case measure => simp [intOf]; omega
    · have hd : decide (k < L.length) = false := decide_eq_false hlt
      go_wp2_with fail
      go_ret
      exact ⟨rfl, m, rfl⟩
end Go.Proofs.Ytfhicmjfifpjkaa
