/- The walk of MarkUnders: for every three 32-bit numbers it returns true and changes nothing that was there. -/
import Derived.Test.YtcjnjneeignjaaaMarkA
namespace Go.Proofs.Ytcjnjneeignjaaa
open Go.RowKit
set_option linter.unusedVariables false
theorem nat_of_u32 {a : Int} (h : (Lit.int .u32 a).wf = true) : ∃ n : Nat, a = n ∧ n < 4294967296 := by
  have := bounds_u32 h
  exact ⟨a.toNat, by omega, by omega⟩
theorem nat_of_u64 {a : Int} (h : (Lit.int .u64 a).wf = true) : ∃ n : Nat, a = n ∧ n < 18446744073709551616 := by
  have := bounds_u64 h
  exact ⟨a.toNat, by omega, by omega⟩
theorem und_refl (a : Nat) : undB a a = true := decide_eq_true fun _ _ h => h
theorem und_trans (a b c : Nat) (h1 : undB a b = true) (h2 : undB b c = true) : undB a c = true :=
  decide_eq_true fun i hi h => of_decide_eq_true h2 i hi (of_decide_eq_true h1 i hi h)
theorem und_antisymm (a b : Nat) (ha : a < 4294967296) (hb : b < 4294967296) (h1 : undB a b = true) (h2 : undB b a = true) : a = b := by
  apply Nat.eq_of_testBit_eq
  intro i
  by_cases hi : i < 32
  · have p := of_decide_eq_true h1 i hi
    have q := of_decide_eq_true h2 i hi
    cases x : a.testBit i <;> cases y : b.testBit i <;> simp_all
  · have e : 2 ^ 32 ≤ 2 ^ i := Nat.pow_le_pow_right (by decide) (by omega)
    rw [Nat.testBit_lt_two_pow (x := a) (i := i) (by omega), Nat.testBit_lt_two_pow (x := b) (i := i) (by omega)]
theorem under_is (a b : Nat) (v : Bool) (w : World) (ha : a < 4294967296) (hb : b < 4294967296) (h : Hid (undB a b = v)) :
    Calls Try.prog 9 #[.int .u32 a, .int .u32 b] w fun e w' => e = .returned (.bool v) ∧ w = w' := by
  have := under_any a b w ha hb
  rwa [h.out] at this
theorem runder_is (a b : Nat) (v : Bool) (w : World) (ha : a < 4294967296) (hb : b < 4294967296) (h : Hid (undB a b = v)) :
    Calls Try.prog 10 #[.int .u32 a, .int .u32 b] w fun e w' => e = .returned (.bool v) ∧ w = w' := by
  have := runder_any a b w ha hb
  rwa [h.out] at this
set_option maxHeartbeats 800000 in
theorem markUnders_nat (a b c : Nat) (ha : a < 4294967296) (hb : b < 4294967296) (hc : c < 4294967296) (w : World) :
    Calls Try.prog 3 #[.int .u32 a, .int .u32 b, .int .u32 c] w fun e w' => e = .returned (.bool true) ∧ Below w.heap.size w w' := by
  have haa := und_refl a
  generalize eab : undB a b = xab
  generalize eba : undB b a = xba
  generalize ebc : undB b c = xbc
  generalize eac : undB a c = xac
  have Htr := Lib.hid (und_trans a b c)
  have Has := Lib.hid (und_antisymm a b ha hb)
  have Hab := Lib.hid eab
  have Hba := Lib.hid eba
  have Hbc := Lib.hid ebc
  have Hac := Lib.hid eac
  have Haa := Lib.hid haa
  clear haa eab eba ebc eac
  go_enter Try.func3, Try.ntmps3
  go_wp2_with fail
  refine (marked_any _).mono ?_
  rintro e w1 ⟨rfl, hb1⟩
  go_wp2_with fail
  refine (under_is a b _ _ ha hb Hab).mono ?_
  rintro e w2 ⟨rfl, rfl⟩
  go_wp2_with fail
  refine (runder_is a b _ _ ha hb Hab).mono ?_
  rintro e w2 ⟨rfl, rfl⟩
  have e1 : (xab == xab) = true := beq_self_eq_true _
  go_wp2_with fail
  refine (under_is a a _ _ ha ha Haa).mono ?_
  rintro e w2 ⟨rfl, rfl⟩
  go_wp2_with fail
  refine (under_is a b _ _ ha hb Hab).mono ?_
  rintro e w2 ⟨rfl, rfl⟩
  cases xab
  · go_wp2_with (go_at_call 9; refine (under_is a b _ _ ha hb Hab).mono ?_; rintro e w2 ⟨rfl, rfl⟩)
    go_ret
    exact ⟨rfl, hb1⟩
  · go_wp2_with fail
    refine (under_is b c _ _ hb hc Hbc).mono ?_
    rintro e w2 ⟨rfl, rfl⟩
    cases xbc
    · go_wp2_with fail
      refine (under_is a b _ _ ha hb Hab).mono ?_
      rintro e w2 ⟨rfl, rfl⟩
      go_wp2_with fail
      refine (under_is b a _ _ hb ha Hba).mono ?_
      rintro e w2 ⟨rfl, rfl⟩
      cases xba
      · go_wp2_with fail
        go_ret
        exact ⟨rfl, hb1⟩
      · obtain rfl : a = b := Has.out Hab.out Hba.out
        go_wp2_with fail
        go_ret
        exact ⟨rfl, hb1⟩
    · obtain rfl : xac = true := by rw [← Hac.out]; exact Htr.out Hab.out Hbc.out
      go_wp2_with fail
      refine (under_is a c _ _ ha hc Hac).mono ?_
      rintro e w2 ⟨rfl, rfl⟩
      go_wp2_with fail
      refine (under_is a b _ _ ha hb Hab).mono ?_
      rintro e w2 ⟨rfl, rfl⟩
      go_wp2_with fail
      refine (under_is b a _ _ hb ha Hba).mono ?_
      rintro e w2 ⟨rfl, rfl⟩
      cases xba
      · go_wp2_with fail
        go_ret
        exact ⟨rfl, hb1⟩
      · obtain rfl : a = b := Has.out Hab.out Hba.out
        go_wp2_with fail
        go_ret
        exact ⟨rfl, hb1⟩
theorem markUnders_walk (a0 : Int) (a1 : Int) (a2 : Int) (w0 : (Lit.int .u32 a0).wf = true) (w1 : (Lit.int .u32 a1).wf = true) (w2 : (Lit.int .u32 a2).wf = true) (w : World) :
    Calls Try.prog 3 #[.int .u32 a0, .int .u32 a1, .int .u32 a2] w fun e w' => e = .returned (.bool true) ∧ Below w.heap.size w w' := by
  obtain ⟨a, rfl, ha⟩ := nat_of_u32 w0
  obtain ⟨b, rfl, hb⟩ := nat_of_u32 w1
  obtain ⟨c, rfl, hc⟩ := nat_of_u32 w2
  exact markUnders_nat a b c ha hb hc w
end Go.Proofs.Ytcjnjneeignjaaa
