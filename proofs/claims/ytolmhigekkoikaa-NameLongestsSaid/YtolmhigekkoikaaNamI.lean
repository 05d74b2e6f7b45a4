/- The contract of the walk of the law's named, and the walks of NameChecks and NameMatches: for every text each returns true and changes nothing that was there. -/
import Derived.Test.YtolmhigekkoikaaNamH
namespace Go.Proofs.Ytolmhigekkoikaa
open Go.RowKit
set_option linter.unusedVariables false
def tName : List UInt8 := [64, 108, 105, 98, 47, 99, 111, 114, 101, 45, 120]
theorem t1 : scopeL tName = [108, 105, 98] ∧ restL tName = [99, 111, 114, 101, 45, 120] ∧ checkL tName = true ∧ globL [42, 97] = false := by decide +kernel
theorem t2 : longTo tName [[42], [64, 108, 105, 98, 47, 99, 111, 114, 101, 45, 42], [64, 108, 105, 98, 47, 42]] 3 = 1 := by decide +kernel
set_option maxHeartbeats 800000 in
theorem named_any (w : World) :
    Calls Try.prog 8 #[] w fun e w' => e = .returned (.bool true) ∧ Below w.heap.size w w' := by
  go_enter Try.func8, Try.ntmps8
  go_wp2_with fail
  refine (split_is tName _ _ _ (by decide) (Lib.hid t1.1) (Lib.hid t1.2.1)).mono ?_
  rintro e w1 ⟨rfl, hb1⟩
  go_wp2_with fail
  refine (check_is tName _ _ (by decide) (Lib.hid t1.2.2.1)).mono ?_
  rintro e w2 ⟨rfl, hb2⟩
  go_wp2_with fail
  refine (glob_is [42, 97] _ _ (by decide) (Lib.hid t1.2.2.2)).mono ?_
  rintro e w3 ⟨rfl, hb3⟩
  go_wp2_with fail
  refine (longest_any tName _ [[42], [64, 108, 105, 98, 47, 99, 111, 114, 101, 45, 42], [64, 108, 105, 98, 47, 42]] _ (by decide) (valRow_lit w3 _ _ 3 rfl (by decide) (by decide)) (by decide)).mono ?_
  rintro e w4 ⟨rfl, hb4⟩
  have h2 : longTo tName [[42], [64, 108, 105, 98, 47, 99, 111, 114, 101, 45, 42], [64, 108, 105, 98, 47, 42]] ([[42], [64, 108, 105, 98, 47, 99, 111, 114, 101, 45, 42], [64, 108, 105, 98, 47, 42]] : List (List UInt8)).length = 1 := t2
  rw [h2]
  go_wp2_with fail
  go_ret
  have hb123 := bthen (bthen hb1 hb2) hb3
  exact ⟨rfl, bthen (hb123.alloc hb123.size _) hb4⟩
set_option maxHeartbeats 1600000 in
theorem nameChecks_list (l : List UInt8) (w : World) (hl : l.length ≤ 9223372036854775807) :
    Calls Try.prog 3 #[.string ⟨l.toArray⟩] w fun e w' => e = .returned (.bool true) ∧ Below w.heap.size w w' := by
  by_cases hbig : 500 < l.length
  · have hd : decide ((500 : Int) < (l.length : Int)) = true := by simp; omega
    go_enter Try.func3, Try.ntmps3
    go_wp2_with fail
    refine (named_any _).mono ?_
    rintro e w1 ⟨rfl, hb1⟩
    go_wp2_with fail
    go_ret
    exact ⟨rfl, hb1⟩
  · have hd : decide ((500 : Int) < (l.length : Int)) = false := by simp; omega
    go_enter Try.func3, Try.ntmps3
    go_wp2_with fail
    refine (split_any l _ hl).mono ?_
    rintro e w1 ⟨rfl, hb1⟩
    go_wp2_with fail
    refine (rsplit_any l _ hl).mono ?_
    rintro e w2 ⟨rfl, hb2⟩
    go_wp2_with fail
    refine (named_any _).mono ?_
    rintro e w3 ⟨rfl, hb3⟩
    go_wp2_with fail
    refine (plain_any l _ hl).mono ?_
    rintro e w4 ⟨rfl, rfl⟩
    go_wp2_with fail
    refine (rplain_any l _ hl).mono ?_
    rintro e w4 ⟨rfl, rfl⟩
    have e1 : (plainL l == plainL l) = true := beq_self_eq_true _
    go_wp2_with fail
    refine (check_any l _ hl).mono ?_
    rintro e w4 ⟨rfl, hb4⟩
    go_wp2_with fail
    refine (rcheck_any l _ hl).mono ?_
    rintro e w5 ⟨rfl, rfl⟩
    have e2 : (checkL l == checkL l) = true := beq_self_eq_true _
    go_wp2_with fail
    refine (glob_any l _ hl).mono ?_
    rintro e w5 ⟨rfl, hb5⟩
    go_wp2_with fail
    refine (rglob_any l _ hl).mono ?_
    rintro e w6 ⟨rfl, rfl⟩
    have e3 : (globL l == globL l) = true := beq_self_eq_true _
    go_wp2_with fail
    go_ret
    exact ⟨rfl, bthen (bthen (bthen (bthen hb1 hb2) hb3) hb4) hb5⟩
theorem nameChecks_walk (a0 : ByteArray) (w0 : a0.size ≤ maxLen) (w : World) :
    Calls Try.prog 3 #[.string a0] w fun e w' => e = .returned (.bool true) ∧ Below w.heap.size w w' :=
  nameChecks_list a0.data.toList w w0
set_option maxHeartbeats 1600000 in
theorem nameMatches_list (g l : List UInt8) (w : World) (hg : g.length ≤ 9223372036854775807) (hl : l.length ≤ 9223372036854775807) :
    Calls Try.prog 4 #[.string ⟨g.toArray⟩, .string ⟨l.toArray⟩] w fun e w' => e = .returned (.bool true) ∧ Below w.heap.size w w' := by
  by_cases hbig : 500 < g.length ∨ 500 < l.length
  · by_cases hb1 : 500 < g.length
    · have hd : decide ((500 : Int) < (g.length : Int)) = true := by simp; omega
      go_enter Try.func4, Try.ntmps4
      go_wp2_with fail
      refine (named_any _).mono ?_
      rintro e w1 ⟨rfl, hb1⟩
      go_wp2_with fail
      go_ret
      exact ⟨rfl, hb1⟩
    · have hd : decide ((500 : Int) < (g.length : Int)) = false := by simp; omega
      have hd2 : decide ((500 : Int) < (l.length : Int)) = true := by simp; omega
      go_enter Try.func4, Try.ntmps4
      go_wp2_with fail
      refine (named_any _).mono ?_
      rintro e w1 ⟨rfl, hb1⟩
      go_wp2_with fail
      go_ret
      exact ⟨rfl, hb1⟩
  · have hd : decide ((500 : Int) < (g.length : Int)) = false := by simp; omega
    have hd2 : decide ((500 : Int) < (l.length : Int)) = false := by simp; omega
    go_enter Try.func4, Try.ntmps4
    go_wp2_with fail
    refine (named_any _).mono ?_
    rintro e w1 ⟨rfl, hb1⟩
    go_wp2_with fail
    refine (match_any g l _ (by omega) (by omega)).mono ?_
    rintro e w2 ⟨rfl, hb2⟩
    go_wp2_with fail
    refine (rmatch_any g l _ (by omega) (by omega)).mono ?_
    rintro e w3 ⟨rfl, hb3⟩
    have e1 : (matchL g l == matchL g l) = true := beq_self_eq_true _
    go_wp2_with fail
    refine (weight_any g _ (by omega)).mono ?_
    rintro e w4 ⟨rfl, hb4⟩
    go_wp2_with fail
    refine (rweight_any g _ (by omega)).mono ?_
    rintro e w5 ⟨rfl, rfl⟩
    go_wp2_with fail
    go_ret
    exact ⟨rfl, bthen (bthen (bthen hb1 hb2) hb3.below) hb4⟩
theorem nameMatches_walk (a0 : ByteArray) (a1 : ByteArray) (w0 : a0.size ≤ maxLen) (w1 : a1.size ≤ maxLen) (w : World) :
    Calls Try.prog 4 #[.string a0, .string a1] w fun e w' => e = .returned (.bool true) ∧ Below w.heap.size w w' :=
  nameMatches_list a0.data.toList a1.data.toList w w0 w1
end Go.Proofs.Ytolmhigekkoikaa
