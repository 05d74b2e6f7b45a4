/- The walk of the law OrderTurns. -/
import Derived.Test.YtfhbndfdlnbfpaaOrdT
import Derived.Deep.RegionWith
namespace Go.Proofs.Ytfhbndfdlnbfpaa
open Go.RowKit
set_option linter.unusedVariables false
theorem wf64 {a : Int} (h : (Lit.int .i64 a).wf = true) : -9223372036854775808 ≤ a ∧ a ≤ 9223372036854775807 := by
  have e : IntKind.i64.min = -9223372036854775808 := by decide
  simp [Lit.wf] at h
  rw [e] at h
  exact h
theorem u64_nat (a : Int) : ∃ A : Nat, IntKind.u64.wrap a = (A : Int) ∧ A < 18446744073709551616 := by
  refine ⟨(IntKind.u64.wrap a).toNat, ?_, ?_⟩
  · rw [IntKind.wrap_u64]; omega
  · rw [IntKind.wrap_u64]; omega
theorem rem_nat (a : Int) (q : Nat) (h0 : 1 ≤ q) (h1 : q ≤ 9223372036854775807) : ∃ r : Nat, (IntKind.u64.wrap a).tmod (q : Int) = (r : Int) ∧ r < q := by
  obtain ⟨A, hA, _⟩ := u64_nat a
  rw [hA]
  refine ⟨A % q, ?_, Nat.mod_lt _ (by omega)⟩
  rw [Int.tmod_eq_emod_of_nonneg (by omega)]
  omega
theorem idx_nat (a : Int) (q : Nat) (h0 : 1 ≤ q) (h1 : q ≤ 4611686018427387904) : ∃ i : Nat, wrap64 (1 + wrap64 ((IntKind.u64.wrap a).tmod (q : Int))) = (i : Int) ∧ 1 ≤ i ∧ i ≤ q := by
  obtain ⟨r, hr, hlt⟩ := rem_nat a q h0 (by omega)
  refine ⟨r + 1, ?_, by omega, by omega⟩
  rw [hr, IntWalk.wrap64_in (r : Int) (by omega), IntWalk.wrap64_in (1 + (r : Int)) (by omega)]
  omega
theorem luby_at (x : Int) (n v : Nat) (hx : x = n) (h0 : 1 ≤ n) (h : n < 2305843009213693952) (hv : LubyIs n v) (w : World) : Calls Try.prog 10 #[.int .i64 x] w fun e w' => e = .returned (.int .i64 v) ∧ w' = w := by
  subst hx
  exact luby_any n w h0 h v hv
set_option maxRecDepth 1000000 in
set_option maxHeartbeats 3200000 in
theorem orderTurns_walk (a0 a1 : Int) (w0 : (Lit.int .i64 a0).wf = true) (w1 : (Lit.int .i64 a1).wf = true) (w : World) :
    Calls Try.prog 4 #[.int .i64 a0, .int .i64 a1] w fun e w' => e = .returned (.bool true) ∧ Below w.heap.size w w' := by
  clear w0 w1
  obtain ⟨k, hk, k1⟩ : ∃ k : Nat, wrap64 (1 + wrap64 ((IntKind.u64.wrap a0).tmod 40)) = (k : Int) + 1 ∧ k < 40 := by
    obtain ⟨r, hr, h0, hlt⟩ := idx_nat a0 40 (by omega) (by omega)
    exact ⟨r - 1, by rw [show (40 : Int) = ((40 : Nat) : Int) from rfl, hr]; omega, by omega⟩
  obtain ⟨Q, hQ⟩ : ∃ Q, 2 ^ k = Q := ⟨_, rfl⟩
  have hQ1 : Q ≤ 549755813888 := by rw [← hQ]; have : 2 ^ k ≤ 2 ^ 39 := Nat.pow_le_pow_right (by omega) (by omega); simpa using this
  have hQ0 : 1 ≤ Q := by rw [← hQ]; exact Nat.one_le_two_pow
  obtain ⟨N, hN⟩ : ∃ N, 2 * Q = N + 1 := ⟨2 * Q - 1, by omega⟩
  have hP : 2 ^ (k + 1) = N + 1 := by rw [Nat.pow_succ, hQ]; omega
  have hR : 2 ^ (k + 2) = 2 * N + 2 := by rw [Nat.pow_succ, hP]; omega
  have hW := wrap_pow (m := k) (by omega) hQ
  have hW2 : wrap64 ((2 : Int) ^ (k + 1)) = (N : Int) + 1 := wrap_pow (m := k + 1) (by omega) hP
  have N0 : 1 ≤ N := by omega
  have N1 : N ≤ 1099511627776 := by omega
  obtain ⟨i, hi, i0, i1⟩ := idx_nat a1 N N0 (by omega)
  have HL1 : Hid (LubyIs N Q) := by have := LubyIs.top k; rw [hP, hQ] at this; exact this
  have HL2 : Hid (LubyIs (2 * N + 1) (N + 1)) := by
    have := LubyIs.top (k + 1)
    rw [hR, hP] at this
    exact this
  obtain ⟨v, hv⟩ := luby_total i i0
  have HV := Lib.hid hv
  have HL3 : Hid (LubyIs (N + i) v) := by
    refine Lib.hid (LubyIs.step _ (k + 1) v (by rw [hP]; omega) (by rw [show k + 1 + 1 = k + 2 from rfl, hR]; omega) ?_)
    rw [hP]
    have e : N + i - (N + 1 - 1) = i := by omega
    rw [e]; exact hv
  clear hQ hP hR hv hN
  have L1 := Lib.hid (luby_at (N : Int) N Q rfl (by omega) (by omega) HL1.out)
  have L2 := Lib.hid (luby_at ((N : Int) + (i : Int)) (N + i) v rfl (by omega) (by omega) HL3.out)
  have L3 := Lib.hid (luby_at (i : Int) i v rfl (by omega) (by omega) HV.out)
  have L4 := Lib.hid (luby_at (2 * (N : Int) + 1) (2 * N + 1) (N + 1) (by omega) (by omega) (by omega) HL2.out)
  clear HL1 HL2 HL3 HV
  go_enter Try.func4, Try.ntmps4
  go_wp2_with fail
  simp only [hk, hi]
  clear hk hi
  have s1 : IntKind.i64.wrap (k : Int) = (k : Int) := IntWalk.i64_in _ (by omega)
  have s2 : IntKind.i64.wrap ((N : Int) + (i : Int)) = (N : Int) + (i : Int) := IntWalk.i64_in _ (by omega)
  have s3 : IntKind.i64.wrap (2 * (N : Int)) = 2 * (N : Int) := IntWalk.i64_in _ (by omega)
  have s4 : IntKind.i64.wrap (2 * (N : Int) + 1) = 2 * (N : Int) + 1 := IntWalk.i64_in _ (by omega)
  have s5 : IntKind.i64.wrap ((2 : Int) ^ k) = (Q : Int) := by rw [IntWalk.i64_left]; exact hW
  have s6 : IntKind.i64.wrap ((2 : Int) ^ (k + 1)) = (N : Int) + 1 := by rw [IntWalk.i64_left]; exact hW2
  go_region_with (first | (go_at_call 11; refine (popped_any _).mono ?_; rintro e w' ⟨rfl, hb⟩) | (go_at_call 10; first | ((with_reducible refine (L1.out _).mono ?_); rintro e w' ⟨rfl, rfl⟩) | ((with_reducible refine (L2.out _).mono ?_); rintro e w' ⟨rfl, rfl⟩) | ((with_reducible refine (L3.out _).mono ?_); rintro e w' ⟨rfl, rfl⟩) | ((with_reducible refine (L4.out _).mono ?_); rintro e w' ⟨rfl, rfl⟩)))
  go_wp2_with fail
  go_ret
  exact ⟨rfl, Below.trans (Below.drewN (Below.refl _ _) 1) hb⟩
end Go.Proofs.Ytfhbndfdlnbfpaa
