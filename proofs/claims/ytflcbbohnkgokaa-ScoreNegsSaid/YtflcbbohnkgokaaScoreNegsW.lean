/- The walk of ScoreNegs: for every input it returns true and changes nothing that was there. -/
import Derived.Test.YtflcbbohnkgokaaScoN
namespace Go.Proofs.Ytflcbbohnkgokaa
open Go.RowKit
set_option linter.unusedVariables false
theorem neg_is (a b : Nat) (w : World) (ha : a < 18446744073709551616) (h : Hid (negN a = b)) :
    Calls Try.prog 25 #[.float .f64 a] w fun e w' => e = .returned (.float .f64 b) ∧ w = w' := by
  have := neg_any a w ha
  rwa [h.out] at this
theorem cmp_negs (k : Int) (h : -1 ≤ k ∧ k ≤ 1) : IntKind.i64.wrap (0 - k) = -k := by rw [IntKind.wrap_i64]; omega
set_option maxHeartbeats 1600000 in
theorem scoreNegs_nat (a b : Nat) (ha : a < 18446744073709551616) (hb : b < 18446744073709551616) (w : World) :
    Calls Try.prog 7 #[.int .u64 a, .int .u64 b] w fun e w' => e = .returned (.bool true) ∧ Below w.heap.size w w' := by
  have hla := negN_lt a ha
  have hlb := negN_lt b hb
  have HNN := Lib.hid (negN_neg a ha)
  have hka := kind_nan a ha
  have hkb := kind_nan b hb
  have hkx := kind_nan (negN a) hla
  have l1 := kind_le a ha
  have l2 := kind_le b hb
  have l3 := kind_le (negN a) hla
  have hnn := nan_neg a ha
  have hsum := kind_neg a ha
  have hxor := neg_xor a ha
  have hcmp := cmp_neg a b ha hb
  have hbd := cmpN_bd a b
  generalize hx : negN a = x at *
  generalize hy : negN b = y at *
  have HX := Lib.hid hx
  have HY := Lib.hid hy
  clear hx hy
  cases hn : nan a
  · have hka0 : ¬ kindN a = 0 := fun e => by have := hka.1 e; rw [hn] at this; cases this
    have hsum := hsum hn
    have hxor := hxor hn
    have hcmp := hcmp hn
    generalize hk1 : kindN a = k1 at *
    generalize hk2 : kindN b = k2 at *
    generalize hk3 : kindN x = k3 at *
    have HK1 := Lib.hid hk1
    have HK2 := Lib.hid hk2
    have HK3 := Lib.hid hk3
    have q1 : ((k1 : Int) == 0) = false := by simp; omega
    have q3 : ((k3 : Int) + (k1 : Int) != 7) = false := by simp; omega
    clear hk1 hk2 hk3 hka hkx hnn hka0 hsum
    cases hm : nan b
    · have hcmp := hcmp hm
      have q2 : ((k2 : Int) == 0) = false := by
        have : ¬ k2 = 0 := fun e => by have := hkb.1 e; rw [hm] at this; cases this
        simp; omega
      generalize hc : cmpN a b = c at *
      have HC := Lib.hid hc
      have HD := Lib.hid hcmp
      clear hc hcmp hn hm hkb
      go_enter Try.func7, Try.ntmps7
      go_wp2_with fail
      refine (of_any a _ ha).mono ?_
      rintro e w1 ⟨rfl, hb1⟩
      go_wp2_with fail
      refine (neg_is a x _ ha HX).mono ?_
      rintro e w' ⟨rfl, rfl⟩
      go_wp2_with fail
      refine (of_any b _ hb).mono ?_
      rintro e w2 ⟨rfl, hb2⟩
      go_wp2_with fail
      refine (neg_is b y _ hb HY).mono ?_
      rintro e w' ⟨rfl, rfl⟩
      go_wp2_with fail
      refine (told_any _).mono ?_
      rintro e w3 ⟨rfl, hb3⟩
      go_wp2_with fail
      refine (neg_is x a _ hla HNN).mono ?_
      rintro e w' ⟨rfl, rfl⟩
      go_wp2_with fail
      refine (stext_any a _ ha).mono ?_
      rintro e w4 ⟨rfl, hb4⟩
      go_wp2_with fail
      refine (rtext_any a _ ha).mono ?_
      rintro e w5 ⟨rfl, hb5⟩
      go_wp2_with fail
      refine (rkind_is a k1 _ ha HK1).mono ?_
      rintro e w' ⟨rfl, rfl⟩
      go_wp2_with fail
      refine (stext_any x _ hla).mono ?_
      rintro e w6 ⟨rfl, hb6⟩
      go_wp2_with fail
      refine (rtext_any x _ hla).mono ?_
      rintro e w7 ⟨rfl, hb7⟩
      go_wp2_with fail
      refine (kind_is x k3 _ hla HK3).mono ?_
      rintro e w' ⟨rfl, rfl⟩
      go_wp2_with fail
      refine (of_any a _ ha).mono ?_
      rintro e w8 ⟨rfl, hb8⟩
      go_wp2_with fail
      refine (kind_is a k1 _ ha HK1).mono ?_
      rintro e w' ⟨rfl, rfl⟩
      go_wp2_with fail
      refine (rkind_is b k2 _ hb HK2).mono ?_
      rintro e w' ⟨rfl, rfl⟩
      go_wp2_with fail
      refine (compare_is x y _ _ hla hlb HD).mono ?_
      rintro e w' ⟨rfl, rfl⟩
      go_wp2_with fail
      refine (rcompare_is a b c _ ha hb HC).mono ?_
      rintro e w' ⟨rfl, rfl⟩
      go_wp2_with fail
      go_ret
      exact ⟨rfl, (bthen (bthen (bthen (bthen (bthen (bthen (bthen hb1 hb2) hb3) hb4) hb5) hb6) hb7) hb8)⟩
    · have q2 : ((k2 : Int) == 0) = true := by
        have := hkb.2 hm
        simp; omega
      clear hcmp hn hm hkb
      go_enter Try.func7, Try.ntmps7
      go_wp2_with fail
      refine (of_any a _ ha).mono ?_
      rintro e w1 ⟨rfl, hb1⟩
      go_wp2_with fail
      refine (neg_is a x _ ha HX).mono ?_
      rintro e w' ⟨rfl, rfl⟩
      go_wp2_with fail
      refine (of_any b _ hb).mono ?_
      rintro e w2 ⟨rfl, hb2⟩
      go_wp2_with fail
      refine (neg_is b y _ hb HY).mono ?_
      rintro e w' ⟨rfl, rfl⟩
      go_wp2_with fail
      refine (told_any _).mono ?_
      rintro e w3 ⟨rfl, hb3⟩
      go_wp2_with fail
      refine (neg_is x a _ hla HNN).mono ?_
      rintro e w' ⟨rfl, rfl⟩
      go_wp2_with fail
      refine (stext_any a _ ha).mono ?_
      rintro e w4 ⟨rfl, hb4⟩
      go_wp2_with fail
      refine (rtext_any a _ ha).mono ?_
      rintro e w5 ⟨rfl, hb5⟩
      go_wp2_with fail
      refine (rkind_is a k1 _ ha HK1).mono ?_
      rintro e w' ⟨rfl, rfl⟩
      go_wp2_with fail
      refine (stext_any x _ hla).mono ?_
      rintro e w6 ⟨rfl, hb6⟩
      go_wp2_with fail
      refine (rtext_any x _ hla).mono ?_
      rintro e w7 ⟨rfl, hb7⟩
      go_wp2_with fail
      refine (kind_is x k3 _ hla HK3).mono ?_
      rintro e w' ⟨rfl, rfl⟩
      go_wp2_with fail
      refine (of_any a _ ha).mono ?_
      rintro e w8 ⟨rfl, hb8⟩
      go_wp2_with fail
      refine (kind_is a k1 _ ha HK1).mono ?_
      rintro e w' ⟨rfl, rfl⟩
      go_wp2_with fail
      refine (rkind_is b k2 _ hb HK2).mono ?_
      rintro e w' ⟨rfl, rfl⟩
      go_wp2_with fail
      go_ret
      exact ⟨rfl, (bthen (bthen (bthen (bthen (bthen (bthen (bthen hb1 hb2) hb3) hb4) hb5) hb6) hb7) hb8)⟩
  · have HK1 := Lib.hid (hka.2 hn)
    have HK3 := Lib.hid (hkx.2 (hnn.trans hn))
    clear hka hkb hkx l1 l2 l3 hnn hsum hxor hcmp hn hbd
    go_enter Try.func7, Try.ntmps7
    go_wp2_with fail
    refine (of_any a _ ha).mono ?_
    rintro e w1 ⟨rfl, hb1⟩
    go_wp2_with fail
    refine (neg_is a x _ ha HX).mono ?_
    rintro e w' ⟨rfl, rfl⟩
    go_wp2_with fail
    refine (of_any b _ hb).mono ?_
    rintro e w2 ⟨rfl, hb2⟩
    go_wp2_with fail
    refine (neg_is b y _ hb HY).mono ?_
    rintro e w' ⟨rfl, rfl⟩
    go_wp2_with fail
    refine (told_any _).mono ?_
    rintro e w3 ⟨rfl, hb3⟩
    go_wp2_with fail
    refine (neg_is x a _ hla HNN).mono ?_
    rintro e w' ⟨rfl, rfl⟩
    go_wp2_with fail
    refine (stext_any a _ ha).mono ?_
    rintro e w4 ⟨rfl, hb4⟩
    go_wp2_with fail
    refine (rtext_any a _ ha).mono ?_
    rintro e w5 ⟨rfl, hb5⟩
    go_wp2_with fail
    refine (rkind_is a 0 _ ha HK1).mono ?_
    rintro e w' ⟨rfl, rfl⟩
    go_wp2_with fail
    refine (kind_is x 0 _ hla HK3).mono ?_
    rintro e w' ⟨rfl, rfl⟩
    go_wp2_with fail
    go_ret
    exact ⟨rfl, (bthen (bthen (bthen (bthen hb1 hb2) hb3) hb4) hb5)⟩
theorem scoreNegs_walk (a0 : Int) (a1 : Int) (w0 : (Lit.int .u64 a0).wf = true) (w1 : (Lit.int .u64 a1).wf = true) (w : World) :
    Calls Try.prog 7 #[.int .u64 a0, .int .u64 a1] w fun e w' => e = .returned (.bool true) ∧ Below w.heap.size w w' := by
  obtain ⟨a, rfl, ha⟩ := nat_of_u64 w0
  obtain ⟨b, rfl, hb⟩ := nat_of_u64 w1
  exact scoreNegs_nat a b ha hb w
end Go.Proofs.Ytflcbbohnkgokaa
