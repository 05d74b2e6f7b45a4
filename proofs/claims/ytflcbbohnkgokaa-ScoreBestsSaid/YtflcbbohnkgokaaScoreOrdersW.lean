/- The walks of ScoreOrders, ScoreCompares and ScoreClamps: for every input each returns true and changes nothing that was there. -/
import Derived.Test.YtflcbbohnkgokaaScoreParsesW
namespace Go.Proofs.Ytflcbbohnkgokaa
open Go.RowKit
set_option linter.unusedVariables false
theorem cmpN_flip (a b : Nat) : cmpN b a = -(cmpN a b) := by unfold cmpN; (repeat' split) <;> omega
/-- two numbers stand at one place just where they have one text -/
theorem row_canon (a b : Nat) (ha : a < 18446744073709551616) (hb : b < 18446744073709551616) : rowN a = rowN b ↔ canon a = canon b := by
  have ra := rowN_eq a ha
  have rb := rowN_eq b hb
  unfold canon
  by_cases na : nan a = true <;> by_cases nb : nan b = true
  · simp [na, nb, ra, rb]
  · rw [if_pos na] at ra
    rw [if_neg nb] at rb
    rw [if_pos na, if_neg nb]
    constructor
    · intro h
      rw [ra, rb] at h
      have hkr := kind_rows b hb
      rw [Bool.not_eq_true] at nb
      rcases hkr with ⟨_, h2, _⟩ | ⟨_, _, h3⟩
      · rw [nb] at h2; cases h2
      · split at h <;> split at rb <;> omega
    · intro h
      subst h
      exact absurd (show nan 9221120237041090561 = true by decide +kernel) nb
  · rw [if_neg na] at ra
    rw [if_pos nb] at rb
    rw [if_neg na, if_pos nb]
    constructor
    · intro h
      rw [ra, rb] at h
      have hkr := kind_rows a ha
      rw [Bool.not_eq_true] at na
      rcases hkr with ⟨_, h2, _⟩ | ⟨_, _, h3⟩
      · rw [na] at h2; cases h2
      · split at h <;> split at ra <;> omega
    · intro h
      subst h
      exact absurd (show nan 9221120237041090561 = true by decide +kernel) na
  · rw [if_neg na] at ra
    rw [if_neg nb] at rb
    rw [if_neg na, if_neg nb, ra, rb]
    split <;> split <;> omega
theorem hexOf_inj (a b : Nat) (ha : a < 18446744073709551616) (hb : b < 18446744073709551616) (h : hexOf a = hexOf b) : a = b := by
  rw [← hexNum_hexOf a ha, ← hexNum_hexOf b hb, h]
theorem text_eq (a b : Nat) (ha : a < 18446744073709551616) (hb : b < 18446744073709551616) : (hexOf (canon a) == hexOf (canon b)) = decide (cmpN a b = 0) := by
  have hr := row_canon a b ha hb
  by_cases h : rowN a = rowN b
  · rw [hr.1 h, cmpN_eq h]; simp
  · have h1 : canon a ≠ canon b := fun e => h (hr.2 e)
    have h2 : hexOf (canon a) ≠ hexOf (canon b) := fun e => h1 (hexOf_inj _ _ (canon_lt a ha) (canon_lt b hb) e)
    have h3 : cmpN a b ≠ 0 := by unfold cmpN; (repeat' split) <;> omega
    rw [beq_eq_false_iff_ne.2 h2, decide_eq_false h3]
theorem cmp_trans (a b c : Nat) (h1 : cmpN a b ≤ 0) (h2 : cmpN b c ≤ 0) : cmpN a c ≤ 0 := by
  unfold cmpN at *
  split at h1 <;> split at h2 <;> split <;> (try split at h1) <;> (try split at h2) <;> (try split) <;> omega
theorem cmp_trans' (a b c : Nat) (h1 : 0 ≤ cmpN a b) (h2 : 0 ≤ cmpN b c) : 0 ≤ cmpN a c := by
  have e1 := cmpN_flip a b
  have e2 := cmpN_flip b c
  have e3 := cmpN_flip a c
  have := cmp_trans c b a (by omega) (by omega)
  omega
theorem stext_str (b : Nat) (l : List UInt8) (w : World) (hb : b < 18446744073709551616) (hl : Hid (hexOf (canon b) = l)) :
    Calls Try.prog 15 #[.float .f64 b] w fun e w' => e = .returned (.string ⟨l.toArray⟩) ∧ Below w.heap.size w w' := by
  have := stext_any b w hb
  rwa [hl.out] at this
theorem rtext_str (b : Nat) (l : List UInt8) (w : World) (hb : b < 18446744073709551616) (hl : Hid (hexOf (canon b) = l)) :
    Calls Try.prog 16 #[.int .u64 b] w fun e w' => e = .returned (.string ⟨l.toArray⟩) ∧ Below w.heap.size w w' := by
  have := rtext_any b w hb
  rwa [hl.out] at this
theorem rcompare_is (a b : Nat) (v : Int) (w : World) (ha : a < 18446744073709551616) (hb : b < 18446744073709551616) (hv : Hid (cmpN a b = v)) :
    Calls Try.prog 22 #[.int .u64 a, .int .u64 b] w fun e w' => e = .returned (.int .i64 v) ∧ w = w' := by
  have := rcompare_any a b w ha hb
  rwa [hv.out] at this
theorem three {k : Int} (h : -1 ≤ k ∧ k ≤ 1) : k = -1 ∨ k = 0 ∨ k = 1 := by omega
set_option maxHeartbeats 4000000 in
theorem scoreOrders_nat (a b c : Nat) (ha : a < 18446744073709551616) (hb : b < 18446744073709551616) (hc : c < 18446744073709551616) (w : World) :
    Calls Try.prog 5 #[.int .u64 a, .int .u64 b, .int .u64 c] w fun e w' => e = .returned (.bool true) ∧ Below w.heap.size w w' := by
  have hte := text_eq a b ha hb
  have t1 := cmp_trans a b c
  have t2 := cmp_trans' a b c
  have hf := cmpN_flip a b
  have b1 := three (cmpN_bd a b)
  have b2 := three (cmpN_bd b c)
  have b3 := three (cmpN_bd a c)
  generalize hk : cmpN a b = k at *
  generalize hm : cmpN b c = m at *
  generalize hn : cmpN a c = n at *
  generalize hx : hexOf (canon a) = x at *
  generalize hy : hexOf (canon b) = y at *
  have HK := Lib.hid hk
  have HM := Lib.hid hm
  have HN := Lib.hid hn
  have HX := Lib.hid hx
  have HY := Lib.hid hy
  have HF := Lib.hid hf
  clear hk hm hn hx hy hf
  rcases b1 with rfl | rfl | rfl <;> rcases b2 with rfl | rfl | rfl <;> rcases b3 with rfl | rfl | rfl
  all_goals
    first
    | exact absurd (t1 (by decide) (by decide)) (by decide)
    | exact absurd (t2 (by decide) (by decide)) (by decide)
    | skip
  all_goals
    clear t1 t2
    first | replace hte : (x == y) = true := hte | replace hte : (x == y) = false := hte
    go_enter Try.func5, Try.ntmps5
    go_wp2_with fail
    refine (of_any a _ ha).mono ?_
    rintro e w1 ⟨rfl, hb1⟩
    go_wp2_with fail
    refine (of_any b _ hb).mono ?_
    rintro e w2 ⟨rfl, hb2⟩
    go_wp2_with fail
    refine (of_any c _ hc).mono ?_
    rintro e w3 ⟨rfl, hb3⟩
    go_wp2_with fail
    refine (compare_is a b _ _ ha hb HK).mono ?_
    rintro e w' ⟨rfl, rfl⟩
    go_wp2_with fail
    refine (compare_is b c _ _ hb hc HM).mono ?_
    rintro e w' ⟨rfl, rfl⟩
    go_wp2_with fail
    refine (compare_is a c _ _ ha hc HN).mono ?_
    rintro e w' ⟨rfl, rfl⟩
    go_wp2_with fail
    refine (told_any _).mono ?_
    rintro e w4 ⟨rfl, hb4⟩
    go_wp2_with fail
    refine (compare_is b a _ _ hb ha HF).mono ?_
    rintro e w' ⟨rfl, rfl⟩
    go_wp2_with fail
    refine (stext_str a x _ ha HX).mono ?_
    rintro e w5 ⟨rfl, hb5⟩
    go_wp2_with fail
    refine (stext_str b y _ hb HY).mono ?_
    rintro e w6 ⟨rfl, hb6⟩
    go_wp2_with fail
    go_ret
    exact ⟨rfl, (bthen (bthen (bthen (bthen (bthen hb1 hb2) hb3) hb4) hb5) hb6)⟩
theorem scoreOrders_walk (a0 : Int) (a1 : Int) (a2 : Int) (w0 : (Lit.int .u64 a0).wf = true) (w1 : (Lit.int .u64 a1).wf = true) (w2 : (Lit.int .u64 a2).wf = true) (w : World) :
    Calls Try.prog 5 #[.int .u64 a0, .int .u64 a1, .int .u64 a2] w fun e w' => e = .returned (.bool true) ∧ Below w.heap.size w w' := by
  obtain ⟨a, rfl, ha⟩ := nat_of_u64 w0
  obtain ⟨b, rfl, hb⟩ := nat_of_u64 w1
  obtain ⟨c, rfl, hc⟩ := nat_of_u64 w2
  exact scoreOrders_nat a b c ha hb hc w
end Go.Proofs.Ytflcbbohnkgokaa
