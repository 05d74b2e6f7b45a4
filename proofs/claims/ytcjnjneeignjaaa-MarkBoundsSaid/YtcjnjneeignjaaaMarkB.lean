/- Contracts of the walks of mark.Join and mark.Meet: the bits of all numbers of a slice, and those that all have; no condition but that the slice can be read. -/
import Derived.Test.YtcjnjneeignjaaaMarkTextsW
import Derived.Test.YtcjnjneeignjaaaRow
namespace Go.Proofs.Ytcjnjneeignjaaa
open Go.RowKit
set_option linter.unusedVariables false
def natsOf (l : List Nat) : List Int := l.map fun n : Nat => (n : Int)
theorem natsOf_getD (l : List Nat) (i : Nat) : (natsOf l).getD i 0 = ((l.getD i 0 : Nat) : Int) := by
  unfold natsOf
  simp only [List.getD, List.getElem?_map]
  cases l[i]? <;> simp
theorem natsOf_length (l : List Nat) : (natsOf l).length = l.length := by simp [natsOf]
def joinN (l : List Nat) : Nat := l.foldl (fun a b => a ||| b) 0
def meetN (l : List Nat) : Nat := l.foldl (fun a b => a &&& b) 67108863
theorem take_snoc_nat (l : List Nat) (k : Nat) (h : k < l.length) : l.take (k + 1) = l.take k ++ [l.getD k 0] := by
  rw [List.take_succ_eq_append_getElem h]
  simp [List.getD, h]
theorem getD_mem_nat (l : List Nat) (k : Nat) (h : k < l.length) : l.getD k 0 ∈ l := by
  simp [List.getD, h]
theorem joinN_snoc (l : List Nat) (x : Nat) : joinN (l ++ [x]) = joinN l ||| x := by simp [joinN]
theorem meetN_snoc (l : List Nat) (x : Nat) : meetN (l ++ [x]) = meetN l &&& x := by simp [meetN]
theorem joinN_lt (l : List Nat) (h : ∀ x ∈ l, x < 4294967296) : joinN l < 4294967296 := by
  revert h
  refine snoc_ind (P := fun l => (∀ x ∈ l, x < 4294967296) → joinN l < 4294967296) (by simp [joinN]) ?_ l
  intro l c ih h
  rw [joinN_snoc]
  exact Nat.or_lt_two_pow (n := 32) (ih fun x hx => h x (by simp [hx])) (h c (by simp))
theorem meetN_lt (l : List Nat) : meetN l < 67108864 := by
  refine snoc_ind (P := fun l => meetN l < 67108864) (by simp [meetN]) ?_ l
  intro l c ih
  rw [meetN_snoc]
  have : meetN l &&& c ≤ meetN l := Nat.and_le_left
  omega
set_option maxHeartbeats 400000 in
theorem join_any (v : Value) (l : List Nat) (w : World) (hr : IntRow .u32 w v (natsOf l)) (hl : ∀ x ∈ l, x < 4294967296) :
    Calls Try.prog 20 #[v] w fun e w' => e = .returned (.int .u32 (joinN l : Nat)) ∧ w = w' := by
  rcases hr with ⟨a, cap, rfl, h0⟩ | ⟨b, off, cap, rfl, hpos, hmax, hbw, hcell⟩
  · obtain rfl : l = [] := List.map_eq_nil_iff.1 h0
    go_enter Try.func20, Try.ntmps20
    go_wp2
    go_rounds 1
    go_ret
    exact ⟨rfl, rfl⟩
  · rw [natsOf_length] at *
    have HC := Lib.hid hcell
    have HL := Lib.hid hl
    clear hcell hl
    unfold maxLen at hmax
    go_enter Try.func20, Try.ntmps20
    go_wp2
    go_loop [3, 8] (fun o i => ∃ k : Nat, k ≤ l.length ∧ i = .int .i64 k ∧ o = .int .u32 (joinN (l.take k) : Nat)) (fun _ i => l.length - (intOf i).toNat)
    case atStart => exact ⟨0, by omega, rfl, rfl⟩
    case round =>
      obtain ⟨k, hk, rfl, rfl⟩ := hrel
      by_cases hlt : k < l.length
      · have hc := HC.out k hlt
        rw [natsOf_getD] at hc
        have hx := HL.out _ (getD_mem_nat l k hlt)
        have hj := joinN_lt (l.take k) fun x hx => HL.out x (List.mem_of_mem_take hx)
        have HS : Hid (joinN (l.take (k + 1)) = joinN (l.take k) ||| l.getD k 0) := by rw [take_snoc_nat l k hlt, joinN_snoc]; rfl
        generalize l.getD k 0 = x at *
        generalize joinN (l.take k) = y at *
        have ho := Lib.hid (u32_or_nat y x hj hx)
        go_wp2
        go_round
        case rel => exact ⟨k + 1, by omega, by go_num, by rw [ho.out, HS.out]⟩
        case measure => simp [intOf]; omega
      · obtain rfl : k = l.length := by omega
        go_wp2
        go_ret
        exact ⟨rfl, rfl⟩
set_option maxHeartbeats 400000 in
theorem meet_any (v : Value) (l : List Nat) (w : World) (hr : IntRow .u32 w v (natsOf l)) (hl : ∀ x ∈ l, x < 4294967296) :
    Calls Try.prog 21 #[v] w fun e w' => e = .returned (.int .u32 (meetN l : Nat)) ∧ w = w' := by
  rcases hr with ⟨a, cap, rfl, h0⟩ | ⟨b, off, cap, rfl, hpos, hmax, hbw, hcell⟩
  · obtain rfl : l = [] := List.map_eq_nil_iff.1 h0
    go_enter Try.func21, Try.ntmps21
    go_wp2
    go_rounds 1
    go_ret
    exact ⟨rfl, rfl⟩
  · rw [natsOf_length] at *
    have HC := Lib.hid hcell
    have HL := Lib.hid hl
    clear hcell hl
    unfold maxLen at hmax
    go_enter Try.func21, Try.ntmps21
    go_wp2
    go_loop [3, 8] (fun o i => ∃ k : Nat, k ≤ l.length ∧ i = .int .i64 k ∧ o = .int .u32 (meetN (l.take k) : Nat)) (fun _ i => l.length - (intOf i).toNat)
    case atStart => exact ⟨0, by omega, rfl, rfl⟩
    case round =>
      obtain ⟨k, hk, rfl, rfl⟩ := hrel
      by_cases hlt : k < l.length
      · have hc := HC.out k hlt
        rw [natsOf_getD] at hc
        have hx := HL.out _ (getD_mem_nat l k hlt)
        have hj := meetN_lt (l.take k)
        have HS : Hid (meetN (l.take (k + 1)) = meetN (l.take k) &&& l.getD k 0) := by rw [take_snoc_nat l k hlt, meetN_snoc]; rfl
        generalize l.getD k 0 = x at *
        generalize meetN (l.take k) = y at *
        have ho := Lib.hid (u32_and_nat y x (by omega) hx)
        go_wp2
        go_round
        case rel => exact ⟨k + 1, by omega, by go_num, by rw [ho.out, HS.out]⟩
        case measure => simp [intOf]; omega
      · obtain rfl : k = l.length := by omega
        go_wp2
        go_ret
        exact ⟨rfl, rfl⟩
end Go.Proofs.Ytcjnjneeignjaaa
