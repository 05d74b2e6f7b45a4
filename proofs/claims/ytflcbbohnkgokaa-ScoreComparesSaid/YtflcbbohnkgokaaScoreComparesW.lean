/- The walks of ScoreCompares and ScoreClamps: for every input each returns true and changes nothing that was there. -/
import Derived.Test.YtflcbbohnkgokaaScoreOrdersW
namespace Go.Proofs.Ytflcbbohnkgokaa
open Go.RowKit
set_option linter.unusedVariables false
def minN (a b : Nat) : Nat := if cmpN a b ≤ 0 then a else b
def maxN (a b : Nat) : Nat := if 0 ≤ cmpN a b then a else b
theorem min_any (a b : Nat) (w : World) (ha : a < 18446744073709551616) (hb : b < 18446744073709551616) :
    Calls Try.prog 28 #[.float .f64 a, .float .f64 b] w fun e w' => e = .returned (.float .f64 (minN a b)) ∧ w = w' := by
  have hm : Hid (minN a b = if cmpN a b ≤ 0 then a else b) := rfl
  generalize hk : cmpN a b = k at *
  have HK := Lib.hid hk
  clear hk
  go_enter Try.func28, Try.ntmps28
  go_wp2_with fail
  refine (compare_is a b k _ ha hb HK).mono ?_
  rintro e w' ⟨rfl, rfl⟩
  go_wp2_with fail
  all_goals go_ret
  · exact ⟨by rw [hm.out, if_pos (by assumption)]; rfl, rfl⟩
  · exact ⟨by rw [hm.out, if_neg (by omega)]; rfl, rfl⟩
theorem max_any (a b : Nat) (w : World) (ha : a < 18446744073709551616) (hb : b < 18446744073709551616) :
    Calls Try.prog 29 #[.float .f64 a, .float .f64 b] w fun e w' => e = .returned (.float .f64 (maxN a b)) ∧ w = w' := by
  have hm : Hid (maxN a b = if 0 ≤ cmpN a b then a else b) := rfl
  generalize hk : cmpN a b = k at *
  have HK := Lib.hid hk
  clear hk
  go_enter Try.func29, Try.ntmps29
  go_wp2_with fail
  refine (compare_is a b k _ ha hb HK).mono ?_
  rintro e w' ⟨rfl, rfl⟩
  go_wp2_with fail
  all_goals go_ret
  · exact ⟨by rw [hm.out, if_pos (by assumption)]; rfl, rfl⟩
  · exact ⟨by rw [hm.out, if_neg (by omega)]; rfl, rfl⟩
theorem minN_lt (a b : Nat) (ha : a < 18446744073709551616) (hb : b < 18446744073709551616) : minN a b < 18446744073709551616 := by unfold minN; split <;> assumption
theorem maxN_lt (a b : Nat) (ha : a < 18446744073709551616) (hb : b < 18446744073709551616) : maxN a b < 18446744073709551616 := by unfold maxN; split <;> assumption
theorem clamp_any (x a b : Nat) (w : World) (hx : x < 18446744073709551616) (ha : a < 18446744073709551616) (hb : b < 18446744073709551616) :
    Calls Try.prog 30 #[.float .f64 x, .float .f64 a, .float .f64 b] w fun e w' => e = .returned (.float .f64 (minN (maxN x a) b)) ∧ w = w' := by
  go_enter Try.func30, Try.ntmps30
  go_wp2_with fail
  refine (max_any x a _ hx ha).mono ?_
  rintro e w' ⟨rfl, rfl⟩
  go_wp2_with fail
  refine (min_any (maxN x a) b _ (maxN_lt x a hx ha) hb).mono ?_
  rintro e w' ⟨rfl, rfl⟩
  go_wp2_with fail
  go_ret
  exact ⟨rfl, rfl⟩
theorem min_is (a b m : Nat) (w : World) (ha : a < 18446744073709551616) (hb : b < 18446744073709551616) (hm : Hid (minN a b = m)) :
    Calls Try.prog 28 #[.float .f64 a, .float .f64 b] w fun e w' => e = .returned (.float .f64 m) ∧ w = w' := by
  have := min_any a b w ha hb
  rwa [hm.out] at this
theorem max_is (a b m : Nat) (w : World) (ha : a < 18446744073709551616) (hb : b < 18446744073709551616) (hm : Hid (maxN a b = m)) :
    Calls Try.prog 29 #[.float .f64 a, .float .f64 b] w fun e w' => e = .returned (.float .f64 m) ∧ w = w' := by
  have := max_any a b w ha hb
  rwa [hm.out] at this
theorem clamp_is (x a b m : Nat) (w : World) (hx : x < 18446744073709551616) (ha : a < 18446744073709551616) (hb : b < 18446744073709551616) (hm : Hid (minN (maxN x a) b = m)) :
    Calls Try.prog 30 #[.float .f64 x, .float .f64 a, .float .f64 b] w fun e w' => e = .returned (.float .f64 m) ∧ w = w' := by
  have := clamp_any x a b w hx ha hb
  rwa [hm.out] at this
theorem eq_of_cmp (a b : Nat) (ha : a < 18446744073709551616) (hb : b < 18446744073709551616) (h : cmpN a b = 0) : canon a = canon b := by
  apply (row_canon a b ha hb).1
  unfold cmpN at h
  split at h
  · omega
  · split at h <;> omega
set_option maxHeartbeats 1600000 in
theorem scoreCompares_nat (a b : Nat) (ha : a < 18446744073709551616) (hb : b < 18446744073709551616) (w : World) :
    Calls Try.prog 10 #[.int .u64 a, .int .u64 b] w fun e w' => e = .returned (.bool true) ∧ Below w.heap.size w w' := by
  have heq := eq_of_cmp a b ha hb
  have HMN : Hid (minN a b = if cmpN a b ≤ 0 then a else b) := rfl
  have HMX : Hid (maxN a b = if 0 ≤ cmpN a b then a else b) := rfl
  have b1 := three (cmpN_bd a b)
  generalize hk : cmpN a b = k at *
  have HK := Lib.hid hk
  clear hk
  rcases b1 with rfl | rfl | rfl
  · have H1 : Hid (minN a b = a) := HMN
    have H2 : Hid (maxN a b = b) := HMX
    clear heq
    go_enter Try.func10, Try.ntmps10
    go_wp2_with fail
    refine (rcompare_is a b _ _ ha hb HK).mono ?_
    rintro e w' ⟨rfl, rfl⟩
    go_wp2_with fail
    refine (told_any _).mono ?_
    rintro e w1 ⟨rfl, hb1⟩
    go_wp2_with fail
    refine (of_any a _ ha).mono ?_
    rintro e w2 ⟨rfl, hb2⟩
    go_wp2_with fail
    refine (of_any b _ hb).mono ?_
    rintro e w3 ⟨rfl, hb3⟩
    go_wp2_with fail
    refine (compare_is a b _ _ ha hb HK).mono ?_
    rintro e w' ⟨rfl, rfl⟩
    go_wp2_with fail
    refine (rcompare_is a b _ _ ha hb HK).mono ?_
    rintro e w' ⟨rfl, rfl⟩
    go_wp2_with fail
    refine (of_any a _ ha).mono ?_
    rintro e w4 ⟨rfl, hb4⟩
    go_wp2_with fail
    refine (of_any b _ hb).mono ?_
    rintro e w5 ⟨rfl, hb5⟩
    go_wp2_with fail
    refine (min_is a b a _ ha hb H1).mono ?_
    rintro e w' ⟨rfl, rfl⟩
    go_wp2_with fail
    refine (stext_any a _ ha).mono ?_
    rintro e w6 ⟨rfl, hb6⟩
    go_wp2_with fail
    refine (rtext_any a _ ha).mono ?_
    rintro e w7 ⟨rfl, hb7⟩
    go_wp2_with fail
    refine (of_any a _ ha).mono ?_
    rintro e w8 ⟨rfl, hb8⟩
    go_wp2_with fail
    refine (of_any b _ hb).mono ?_
    rintro e w9 ⟨rfl, hb9⟩
    go_wp2_with fail
    refine (max_is a b b _ ha hb H2).mono ?_
    rintro e w' ⟨rfl, rfl⟩
    go_wp2_with fail
    refine (stext_any b _ hb).mono ?_
    rintro e w10 ⟨rfl, hb10⟩
    go_wp2_with fail
    refine (rtext_any b _ hb).mono ?_
    rintro e w11 ⟨rfl, hb11⟩
    go_wp2_with fail
    go_ret
    exact ⟨rfl, (bthen (bthen (bthen (bthen (bthen (bthen (bthen (bthen (bthen (bthen hb1 hb2) hb3) hb4) hb5) hb6) hb7) hb8) hb9) hb10) hb11)⟩
  · have H1 : Hid (minN a b = a) := HMN
    have H2 : Hid (maxN a b = a) := HMX
    have HE := Lib.hid (heq rfl)
    clear heq
    go_enter Try.func10, Try.ntmps10
    go_wp2_with fail
    refine (rcompare_is a b _ _ ha hb HK).mono ?_
    rintro e w' ⟨rfl, rfl⟩
    go_wp2_with fail
    refine (told_any _).mono ?_
    rintro e w1 ⟨rfl, hb1⟩
    go_wp2_with fail
    refine (of_any a _ ha).mono ?_
    rintro e w2 ⟨rfl, hb2⟩
    go_wp2_with fail
    refine (of_any b _ hb).mono ?_
    rintro e w3 ⟨rfl, hb3⟩
    go_wp2_with fail
    refine (compare_is a b _ _ ha hb HK).mono ?_
    rintro e w' ⟨rfl, rfl⟩
    go_wp2_with fail
    refine (rcompare_is a b _ _ ha hb HK).mono ?_
    rintro e w' ⟨rfl, rfl⟩
    go_wp2_with fail
    refine (of_any a _ ha).mono ?_
    rintro e w4 ⟨rfl, hb4⟩
    go_wp2_with fail
    refine (of_any b _ hb).mono ?_
    rintro e w5 ⟨rfl, hb5⟩
    go_wp2_with fail
    refine (min_is a b a _ ha hb H1).mono ?_
    rintro e w' ⟨rfl, rfl⟩
    go_wp2_with fail
    refine (stext_any a _ ha).mono ?_
    rintro e w6 ⟨rfl, hb6⟩
    go_wp2_with fail
    refine (rtext_any a _ ha).mono ?_
    rintro e w7 ⟨rfl, hb7⟩
    go_wp2_with fail
    refine (of_any a _ ha).mono ?_
    rintro e w8 ⟨rfl, hb8⟩
    go_wp2_with fail
    refine (of_any b _ hb).mono ?_
    rintro e w9 ⟨rfl, hb9⟩
    go_wp2_with fail
    refine (max_is a b a _ ha hb H2).mono ?_
    rintro e w' ⟨rfl, rfl⟩
    go_wp2_with fail
    refine (stext_any a _ ha).mono ?_
    rintro e w10 ⟨rfl, hb10⟩
    go_wp2_with fail
    refine (rtext_any b _ hb).mono ?_
    rintro e w11 ⟨rfl, hb11⟩
    rw [HE.out]
    go_wp2_with fail
    go_ret
    exact ⟨rfl, (bthen (bthen (bthen (bthen (bthen (bthen (bthen (bthen (bthen (bthen hb1 hb2) hb3) hb4) hb5) hb6) hb7) hb8) hb9) hb10) hb11)⟩
  · have H1 : Hid (minN a b = b) := HMN
    have H2 : Hid (maxN a b = a) := HMX
    clear heq
    go_enter Try.func10, Try.ntmps10
    go_wp2_with fail
    refine (rcompare_is a b _ _ ha hb HK).mono ?_
    rintro e w' ⟨rfl, rfl⟩
    go_wp2_with fail
    refine (told_any _).mono ?_
    rintro e w1 ⟨rfl, hb1⟩
    go_wp2_with fail
    refine (of_any a _ ha).mono ?_
    rintro e w2 ⟨rfl, hb2⟩
    go_wp2_with fail
    refine (of_any b _ hb).mono ?_
    rintro e w3 ⟨rfl, hb3⟩
    go_wp2_with fail
    refine (compare_is a b _ _ ha hb HK).mono ?_
    rintro e w' ⟨rfl, rfl⟩
    go_wp2_with fail
    refine (rcompare_is a b _ _ ha hb HK).mono ?_
    rintro e w' ⟨rfl, rfl⟩
    go_wp2_with fail
    refine (of_any a _ ha).mono ?_
    rintro e w4 ⟨rfl, hb4⟩
    go_wp2_with fail
    refine (of_any b _ hb).mono ?_
    rintro e w5 ⟨rfl, hb5⟩
    go_wp2_with fail
    refine (min_is a b b _ ha hb H1).mono ?_
    rintro e w' ⟨rfl, rfl⟩
    go_wp2_with fail
    refine (stext_any b _ hb).mono ?_
    rintro e w6 ⟨rfl, hb6⟩
    go_wp2_with fail
    refine (rtext_any b _ hb).mono ?_
    rintro e w7 ⟨rfl, hb7⟩
    go_wp2_with fail
    refine (of_any a _ ha).mono ?_
    rintro e w8 ⟨rfl, hb8⟩
    go_wp2_with fail
    refine (of_any b _ hb).mono ?_
    rintro e w9 ⟨rfl, hb9⟩
    go_wp2_with fail
    refine (max_is a b a _ ha hb H2).mono ?_
    rintro e w' ⟨rfl, rfl⟩
    go_wp2_with fail
    refine (stext_any a _ ha).mono ?_
    rintro e w10 ⟨rfl, hb10⟩
    go_wp2_with fail
    refine (rtext_any a _ ha).mono ?_
    rintro e w11 ⟨rfl, hb11⟩
    go_wp2_with fail
    go_ret
    exact ⟨rfl, (bthen (bthen (bthen (bthen (bthen (bthen (bthen (bthen (bthen (bthen hb1 hb2) hb3) hb4) hb5) hb6) hb7) hb8) hb9) hb10) hb11)⟩
theorem scoreCompares_walk (a0 : Int) (a1 : Int) (w0 : (Lit.int .u64 a0).wf = true) (w1 : (Lit.int .u64 a1).wf = true) (w : World) :
    Calls Try.prog 10 #[.int .u64 a0, .int .u64 a1] w fun e w' => e = .returned (.bool true) ∧ Below w.heap.size w w' := by
  obtain ⟨a, rfl, ha⟩ := nat_of_u64 w0
  obtain ⟨b, rfl, hb⟩ := nat_of_u64 w1
  exact scoreCompares_nat a b ha hb w
set_option maxHeartbeats 1600000 in
theorem scoreClamps_nat (x a b : Nat) (hx : x < 18446744073709551616) (ha : a < 18446744073709551616) (hb : b < 18446744073709551616) (w : World) :
    Calls Try.prog 11 #[.int .u64 x, .int .u64 a, .int .u64 b] w fun e w' => e = .returned (.bool true) ∧ Below w.heap.size w w' := by
  have b1 := three (cmpN_bd a x)
  have hf := cmpN_flip a x
  by_cases h1 : 0 < cmpN a x
  · have hmx : maxN x a = a := by unfold maxN; rw [if_neg (by omega)]
    generalize hk : cmpN a x = k at *
    have HK := Lib.hid hk
    clear hk hf b1
    by_cases h2 : 0 < cmpN a b
    · have HM : Hid (minN (maxN x a) b = b) := by rw [hmx]; unfold minN; rw [if_neg (by omega)]; rfl
      generalize hj : cmpN a b = j at *
      have HJ := Lib.hid hj
      clear hj hmx
      go_enter Try.func11, Try.ntmps11
      go_wp2_with fail
      refine (rcompare_is a x _ _ ha hx HK).mono ?_
      rintro e w' ⟨rfl, rfl⟩
      go_wp2_with fail
      refine (rcompare_is a b _ _ ha hb HJ).mono ?_
      rintro e w' ⟨rfl, rfl⟩
      go_wp2_with fail
      refine (told_any _).mono ?_
      rintro e w1 ⟨rfl, hb1⟩
      go_wp2_with fail
      refine (of_any x _ hx).mono ?_
      rintro e w2 ⟨rfl, hb2⟩
      go_wp2_with fail
      refine (of_any a _ ha).mono ?_
      rintro e w3 ⟨rfl, hb3⟩
      go_wp2_with fail
      refine (of_any b _ hb).mono ?_
      rintro e w4 ⟨rfl, hb4⟩
      go_wp2_with fail
      refine (clamp_is x a b b _ hx ha hb HM).mono ?_
      rintro e w' ⟨rfl, rfl⟩
      go_wp2_with fail
      refine (stext_any b _ hb).mono ?_
      rintro e w5 ⟨rfl, hb5⟩
      go_wp2_with fail
      refine (rtext_any b _ hb).mono ?_
      rintro e w6 ⟨rfl, hb6⟩
      go_wp2_with fail
      go_ret
      exact ⟨rfl, (bthen (bthen (bthen (bthen (bthen hb1 hb2) hb3) hb4) hb5) hb6)⟩
    · have HM : Hid (minN (maxN x a) b = a) := by rw [hmx]; unfold minN; rw [if_pos (by omega)]; rfl
      generalize hj : cmpN a b = j at *
      have HJ := Lib.hid hj
      clear hj hmx
      go_enter Try.func11, Try.ntmps11
      go_wp2_with fail
      refine (rcompare_is a x _ _ ha hx HK).mono ?_
      rintro e w' ⟨rfl, rfl⟩
      go_wp2_with fail
      refine (rcompare_is a b _ _ ha hb HJ).mono ?_
      rintro e w' ⟨rfl, rfl⟩
      go_wp2_with fail
      refine (told_any _).mono ?_
      rintro e w1 ⟨rfl, hb1⟩
      go_wp2_with fail
      refine (of_any x _ hx).mono ?_
      rintro e w2 ⟨rfl, hb2⟩
      go_wp2_with fail
      refine (of_any a _ ha).mono ?_
      rintro e w3 ⟨rfl, hb3⟩
      go_wp2_with fail
      refine (of_any b _ hb).mono ?_
      rintro e w4 ⟨rfl, hb4⟩
      go_wp2_with fail
      refine (clamp_is x a b a _ hx ha hb HM).mono ?_
      rintro e w' ⟨rfl, rfl⟩
      go_wp2_with fail
      refine (stext_any a _ ha).mono ?_
      rintro e w5 ⟨rfl, hb5⟩
      go_wp2_with fail
      refine (rtext_any a _ ha).mono ?_
      rintro e w6 ⟨rfl, hb6⟩
      go_wp2_with fail
      go_ret
      exact ⟨rfl, (bthen (bthen (bthen (bthen (bthen hb1 hb2) hb3) hb4) hb5) hb6)⟩
  · have hmx : maxN x a = x := by unfold maxN; rw [if_pos (by omega)]
    generalize hk : cmpN a x = k at *
    have HK := Lib.hid hk
    clear hk hf b1
    by_cases h2 : 0 < cmpN x b
    · have HM : Hid (minN (maxN x a) b = b) := by rw [hmx]; unfold minN; rw [if_neg (by omega)]; rfl
      generalize hj : cmpN x b = j at *
      have HJ := Lib.hid hj
      clear hj hmx
      go_enter Try.func11, Try.ntmps11
      go_wp2_with fail
      refine (rcompare_is a x _ _ ha hx HK).mono ?_
      rintro e w' ⟨rfl, rfl⟩
      go_wp2_with fail
      refine (rcompare_is x b _ _ hx hb HJ).mono ?_
      rintro e w' ⟨rfl, rfl⟩
      go_wp2_with fail
      refine (told_any _).mono ?_
      rintro e w1 ⟨rfl, hb1⟩
      go_wp2_with fail
      refine (of_any x _ hx).mono ?_
      rintro e w2 ⟨rfl, hb2⟩
      go_wp2_with fail
      refine (of_any a _ ha).mono ?_
      rintro e w3 ⟨rfl, hb3⟩
      go_wp2_with fail
      refine (of_any b _ hb).mono ?_
      rintro e w4 ⟨rfl, hb4⟩
      go_wp2_with fail
      refine (clamp_is x a b b _ hx ha hb HM).mono ?_
      rintro e w' ⟨rfl, rfl⟩
      go_wp2_with fail
      refine (stext_any b _ hb).mono ?_
      rintro e w5 ⟨rfl, hb5⟩
      go_wp2_with fail
      refine (rtext_any b _ hb).mono ?_
      rintro e w6 ⟨rfl, hb6⟩
      go_wp2_with fail
      go_ret
      exact ⟨rfl, (bthen (bthen (bthen (bthen (bthen hb1 hb2) hb3) hb4) hb5) hb6)⟩
    · have HM : Hid (minN (maxN x a) b = x) := by rw [hmx]; unfold minN; rw [if_pos (by omega)]; rfl
      generalize hj : cmpN x b = j at *
      have HJ := Lib.hid hj
      clear hj hmx
      go_enter Try.func11, Try.ntmps11
      go_wp2_with fail
      refine (rcompare_is a x _ _ ha hx HK).mono ?_
      rintro e w' ⟨rfl, rfl⟩
      go_wp2_with fail
      refine (rcompare_is x b _ _ hx hb HJ).mono ?_
      rintro e w' ⟨rfl, rfl⟩
      go_wp2_with fail
      refine (told_any _).mono ?_
      rintro e w1 ⟨rfl, hb1⟩
      go_wp2_with fail
      refine (of_any x _ hx).mono ?_
      rintro e w2 ⟨rfl, hb2⟩
      go_wp2_with fail
      refine (of_any a _ ha).mono ?_
      rintro e w3 ⟨rfl, hb3⟩
      go_wp2_with fail
      refine (of_any b _ hb).mono ?_
      rintro e w4 ⟨rfl, hb4⟩
      go_wp2_with fail
      refine (clamp_is x a b x _ hx ha hb HM).mono ?_
      rintro e w' ⟨rfl, rfl⟩
      go_wp2_with fail
      refine (stext_any x _ hx).mono ?_
      rintro e w5 ⟨rfl, hb5⟩
      go_wp2_with fail
      refine (rtext_any x _ hx).mono ?_
      rintro e w6 ⟨rfl, hb6⟩
      go_wp2_with fail
      go_ret
      exact ⟨rfl, (bthen (bthen (bthen (bthen (bthen hb1 hb2) hb3) hb4) hb5) hb6)⟩
theorem scoreClamps_walk (a0 : Int) (a1 : Int) (a2 : Int) (w0 : (Lit.int .u64 a0).wf = true) (w1 : (Lit.int .u64 a1).wf = true) (w2 : (Lit.int .u64 a2).wf = true) (w : World) :
    Calls Try.prog 11 #[.int .u64 a0, .int .u64 a1, .int .u64 a2] w fun e w' => e = .returned (.bool true) ∧ Below w.heap.size w w' := by
  obtain ⟨a, rfl, ha⟩ := nat_of_u64 w0
  obtain ⟨b, rfl, hb⟩ := nat_of_u64 w1
  obtain ⟨c, rfl, hc⟩ := nat_of_u64 w2
  exact scoreClamps_nat a b c ha hb hc w
end Go.Proofs.Ytflcbbohnkgokaa
