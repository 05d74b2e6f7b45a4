/- Contracts of the walks of the reference's Labels and Number: the places of a text's labels, and the places as bits; no condition but that the text's length fits. -/
import Derived.Test.YtcjnjneeignjaaaMarkT
namespace Go.Proofs.Ytcjnjneeignjaaa
open Go.RowKit
open Go.PlainAid (bt get_bt bt_nonneg bt_le)
set_option linter.unusedVariables false
def bitVal (n j : Nat) : Value := .int .i64 (if n.testBit j then 1 else 0)
def labCells (n : Nat) : Array Value := ((List.range 26).map (bitVal n)).toArray
theorem labCells_size (n : Nat) : (labCells n).size = 26 := by simp [labCells]
theorem labCells_set (n j : Nat) (hj : j < 26) : (labCells n).setIfInBounds j (.int .i64 1) = labCells (n ||| 2 ^ j) := by
  apply Array.ext
  · simp [labCells]
  · intro i h1 h2
    have h3 : i < (labCells n).size := by simpa using h1
    rw [Array.getElem_setIfInBounds h3]
    simp only [labCells, List.getElem_toArray, List.getElem_map, List.getElem_range, bitVal, Nat.testBit_or, Nat.testBit_two_pow]
    by_cases e : j = i
    · subst e; simp
    · simp [e]
theorem labCells_at (n j : Nat) (hj : j < 26) : (labCells n)[j]? = some (bitVal n j) := by simp [labCells, hj]
theorem rlabels_stop (s : ByteArray) (k : Nat) (hm : (s.toList == [45]) = false) (hk : k < s.size) (h : ¬ Lab1 s k) : ¬ LabTo s s.size := fun h2 => h (h2 k hk)
theorem cell_alloc_row (w : World) (A : Array Value) (T : TypeId) (n j : Nat) (v : Value) (h : A[j]? = some v) : ((w.alloc (.cells A T)).drewN n).cell? ⟨w.heap.size, j, none⟩ = some v := by
  have : (w.alloc (.cells A T)).cell? ⟨w.heap.size, j, none⟩ = some v := by simp [go_sem, h]
  exact this
theorem set_row_world (w : World) (A B : Array Value) (T : TypeId) (n j : Nat) (v : Value) (h : A.setIfInBounds j v = B) : ((w.alloc (.cells A T)).drewN n).setCell ⟨w.heap.size, j, none⟩ v = (w.alloc (.cells B T)).drewN n := by
  subst h
  have : (w.alloc (.cells A T)).setCell ⟨w.heap.size, j, none⟩ v = w.alloc (.cells (A.setIfInBounds j v) T) := by rw [World.setCell_alloc_at _ _ _ _ _ rfl]
  exact congrArg (fun x : World => x.drewN n) this
theorem labSum_num (s : ByteArray) (hm : (s.toList == [45]) = false) (h : LabTo s s.size) : labNum s = labSum s s.size := by
  rw [Go.ByteArray.toList_eq] at hm
  simp [labNum, hm, h]
/-- what the reference's Labels comes to -/
def LabelsPost (s : ByteArray) (w : World) (e : Ending) (w' : World) : Prop :=
  Below w.heap.size w w' ∧
  ((labOk s = false ∧ ∃ v, e = .returned (.tuple #[v, .bool false])) ∨
   (labOk s = true ∧ e = .returned (.tuple #[.slice (some ⟨w.heap.size, 0, none⟩) 26 26, .bool true]) ∧ w.heap.size < w'.heap.size ∧ ∀ j, j < 26 → w'.cell? ⟨w.heap.size, j, none⟩ = some (bitVal (labNum s) j)))
set_option maxHeartbeats 800000 in
theorem rlabels_any (s : ByteArray) (w : World) (hs : s.size ≤ maxLen) :
    Calls Try.prog 16 #[.string s] w (LabelsPost s w) := by
  unfold maxLen at hs
  have hmk : ∀ w, (Instr.makeSlice 39 (.int .i64 26) (.int .i64 26)).run Try.prog w = .ok (.slice (some ⟨w.heap.size, 0, none⟩) 26 26) (w.alloc (.cells (labCells 0) 3)) := fun _ => by kernel_rfl
  have hb := get_bt s
  by_cases hm : (s.toList == [45]) = true
  · go_enter Try.func16, Try.ntmps16
    go_wp2
    go_ret2
    rw [Go.ByteArray.toList_eq] at hm
    exact ⟨(Below.refl _ _).alloc (Nat.le_refl _) _, .inr ⟨by simp [labOk, hm], rfl, by simp, by rw [show labNum s = 0 by simp [labNum, hm]]; exact fun j hj => cell_alloc_row w _ _ 0 j _ (labCells_at 0 j hj)⟩⟩
  · rw [Bool.not_eq_true] at hm
    go_enter Try.func16, Try.ntmps16
    go_wp2
    go_loopw [5] (fun i wr => ∃ (k n : Nat), k ≤ s.size ∧ i = .int .i64 k ∧ LabTo s k ∧ wr = (w.alloc (.cells (labCells (labSum s k)) 3)).drewN n) (fun i _ => s.size - (intOf i).toNat)
    case atStart => exact ⟨0, 0, Nat.zero_le _, rfl, fun i hi => absurd hi (by omega), rfl⟩
    case round =>
      obtain ⟨k, nd, hk, rfl, ha, rfl⟩ := hrel
      have HA := Lib.hid ha
      clear ha
      have hbel : Below w.heap.size w (w.alloc (.cells (labCells (labSum s k)) 3)) := (Below.refl _ _).alloc (Nat.le_refl _) _
      by_cases hlt : k < s.size
      · have hlt' : (k : Int) < (s.size : Int) := by omega
        have hk0 : (0 : Int) ≤ (k : Int) := by omega
        have hs1 := labSum_lt s k HA.out
        have hc0 := bt_nonneg s k
        have hc1 := bt_le s k
        have hz := labCells_size (labSum s k)
        by_cases h1 : bt s k < 97
        · have hd : decide (bt s k < 97) = true := by simpa using h1
          go_wp2
          go_quiet (fail)
          go_wp2
          go_ret2
          have := parse_stop s k hm hlt (by unfold Lab1; omega)
          exact ⟨below_drewN (below_drewN hbel _) _, .inl ⟨this.2, _, rfl⟩⟩
        · have hd : decide (bt s k < 97) = false := by simpa using h1
          by_cases h2 : 122 < bt s k
          · have hd2 : decide (122 < bt s k) = true := by simpa using h2
            go_wp2
            go_quiet (fail)
            go_wp2
            go_ret2
            have := parse_stop s k hm hlt (by unfold Lab1; omega)
            exact ⟨below_drewN (below_drewN hbel _) _, .inl ⟨this.2, _, rfl⟩⟩
          · have hd2 : decide (122 < bt s k) = false := by simpa using h2
            have hat := labCells_at (labSum s k) (bt s k - 97).toNat (by omega)
            have HS := Lib.hid (labCells_set (labSum s k) (bt s k - 97).toNat (by omega))
            by_cases h3 : k ≤ 0
            · have hd3 : decide (0 < k) = false := by simp; omega
              go_wp2
              go_quiet (fail)
              go_wp2
              go_roundw
              case rel => exact ⟨k + 1, _, by omega, by go_num, LabTo_succ s k HA.out (by unfold Lab1; omega), set_row_world w _ _ _ _ _ _ HS.out⟩
              case measure => simp [intOf]; omega
            · have hd3 : decide (0 < k) = true := by simp; omega
              have hd3' : 0 < k := by omega
              have hd3'' : (1 : Int) ≤ (k : Int) := by omega
              have k1 : (0 : Int) ≤ (k : Int) - 1 := by omega
              have k2 : (k : Int) - 1 < (s.size : Int) := by omega
              have k3 : IntKind.i64.wrap ((k : Int) - 1) = (k : Int) - 1 := IntWalk.i64_in _ (by omega)
              have k4 : ((k : Int) - 1).toNat = k - 1 := by omega
              by_cases h4 : bt s k ≤ bt s (k - 1)
              · have hd4 : decide (bt s k ≤ bt s (k - 1)) = true := by simpa using h4
                go_wp2
                go_quiet (fail)
                clear k3 k4
                go_wp2
                go_ret2
                have := parse_stop s k hm hlt (by unfold Lab1; omega)
                exact ⟨below_drewN (below_drewN hbel _) _, .inl ⟨this.2, _, rfl⟩⟩
              · have hd4 : decide (bt s k ≤ bt s (k - 1)) = false := by simpa using h4
                go_wp2
                go_quiet (fail)
                clear k3 k4
                go_wp2
                go_roundw
                case rel => exact ⟨k + 1, _, by omega, by go_num, LabTo_succ s k HA.out (by unfold Lab1; omega), set_row_world w _ _ _ _ _ _ HS.out⟩
                case measure => simp [intOf]; omega
      · have HN := Lib.hid (labSum_num s hm)
        obtain rfl : k = s.size := by omega
        have hm2 := hm
        rw [Go.ByteArray.toList_eq] at hm2
        have HM := Lib.hid hm2
        clear hm2
        by_cases h0 : 0 < s.size
        · have hd0 : decide (0 < s.size) = true := by simpa using h0
          go_wp2
          go_ret2
          refine ⟨below_drewN hbel _, .inr ⟨?_, rfl, by simp, ?_⟩⟩
          · have h1 : (s.size != 0) = true := bne_iff_ne.2 (by omega)
            unfold labOk
            rw [HM.out, decide_eq_true HA.out, h1]; rfl
          · rw [HN.out HA.out]
            exact fun j hj => cell_alloc_row w _ _ _ j _ (labCells_at _ j hj)
        · have hd0 : decide (0 < s.size) = false := by simpa using h0
          go_wp2
          go_ret2
          refine ⟨below_drewN hbel _, .inl ⟨?_, _, rfl⟩⟩
          have h1 : (s.size != 0) = false := by
            rw [show s.size = 0 from by omega]; rfl
          unfold labOk
          rw [HM.out, h1]; simp
theorem half (N m : Nat) : (N / 2 ^ m) = 2 * (N / 2 ^ (m + 1)) + (if N.testBit m then 1 else 0) := by
  rw [Nat.testBit_eq_decide_div_mod_eq, Nat.pow_succ, ← Nat.div_div_eq_div_mul]
  generalize N / 2 ^ m = x
  by_cases h : x % 2 = 1
  · simp [h]; omega
  · simp [h]; omega
theorem number_any (B N : Nat) (hN : N < 67108864) (w : World) (hc : ∀ j, j < 26 → w.cell? ⟨B, j, none⟩ = some (bitVal N j)) :
    Calls Try.prog 17 #[.slice (some ⟨B, 0, none⟩) 26 26] w fun e w' => e = .returned (.int .u32 N) ∧ w = w' := by
  have HC := Lib.hid hc
  clear hc
  go_enter Try.func17, Try.ntmps17
  go_wp2
  go_loop [3, 4] (fun n i => ∃ m : Nat, m ≤ 26 ∧ i = .int .i64 ((m : Int) - 1) ∧ n = .int .u32 (N / 2 ^ m : Nat)) (fun _ i => (intOf i + 1).toNat)
  case atStart => exact ⟨26, by omega, rfl, by rw [Nat.div_eq_of_lt hN]; rfl⟩
  case round =>
    obtain ⟨m, hm, rfl, rfl⟩ := hrel
    by_cases h0 : m = 0
    · subst h0
      go_wp2
      go_ret
      exact ⟨ret_int (by simp), rfl⟩
    · obtain ⟨m, rfl⟩ : ∃ m', m = m' + 1 := ⟨m - 1, by omega⟩
      have hcell := HC.out m (by omega)
      have hh := Lib.hid (half N m)
      have e1 : ((m + 1 : Nat) : Int) - 1 = m := by omega
      have hle : N / 2 ^ (m + 1) < 33554432 := by
        have : N / 2 ^ (m + 1) ≤ N / 2 := Nat.div_le_div_left (Nat.le_self_pow (by omega) 2) (by decide)
        omega
      generalize N / 2 ^ (m + 1) = x at *
      rw [e1]
      unfold bitVal at hcell
      cases hb : N.testBit m
      all_goals
        rw [hb] at hcell
        simp only [Bool.false_eq_true, if_true, if_false] at hcell
        go_wp2
        go_round
        case rel => exact ⟨m, by omega, by go_num, by rw [hh.out, hb]; simp; omega⟩
        case measure => simp [intOf]
end Go.Proofs.Ytcjnjneeignjaaa
