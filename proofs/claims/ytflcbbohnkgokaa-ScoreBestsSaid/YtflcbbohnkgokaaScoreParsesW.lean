/- The walks of ScoreParses and ScoreKinds: for every input each returns true and changes nothing that was there. -/
import Derived.Test.YtflcbbohnkgokaaScoB
namespace Go.Proofs.Ytflcbbohnkgokaa
open Go.RowKit
set_option linter.unusedVariables false
theorem nat_of_u64 {a : Int} (h : (Lit.int .u64 a).wf = true) : ∃ n : Nat, a = n ∧ n < 18446744073709551616 := by
  have := bounds_u64 h
  exact ⟨a.toNat, by omega, by omega⟩
theorem sparse_is (s : ByteArray) (n : Nat) (b : Bool) (w : World) (hn : Hid (hexNum s = n)) (hb : Hid (hexOk s = b)) :
    Calls Try.prog 12 #[.string s] w fun e w' => e = .returned (.tuple #[.float .f64 n, .bool b]) ∧ w = w' := by
  have := sparse_any s w
  rwa [hn.out, hb.out] at this
theorem bits_is (s : ByteArray) (n : Nat) (b : Bool) (w : World) (hn : Hid (hexNum s = n)) (hb : Hid (hexOk s = b)) :
    Calls Try.prog 13 #[.string s] w fun e w' => e = .returned (.tuple #[.int .u64 n, .bool b]) ∧ w = w' := by
  have := bits_any s w
  rwa [hn.out, hb.out] at this
theorem hexNum_lt (s : ByteArray) : hexNum s < 18446744073709551616 := by
  unfold hexNum
  split
  · rename_i h
    simp only [hexOk, Bool.and_eq_true, beq_iff_eq] at h
    have := hexVal_lt _ h.2
    have e : s.data.toList.length = 16 := h.1
    rw [e] at this
    exact this
  · decide
set_option maxHeartbeats 800000 in
theorem scoreParses_nat (s : ByteArray) (b : Nat) (hb : b < 18446744073709551616) (w : World) :
    Calls Try.prog 3 #[.string s, .int .u64 b] w fun e w' => e = .returned (.bool true) ∧ Below w.heap.size w w' := by
  have H1 := Lib.hid (hexOk_hexOf b)
  have H2 := Lib.hid (hexNum_hexOf b hb)
  have hlt := hexNum_lt s
  by_cases h : hexOk s = true
  · have HO := Lib.hid h
    generalize hn : hexNum s = n at *
    have HN := Lib.hid hn
    clear h hn
    go_enter Try.func3, Try.ntmps3
    go_wp2_with fail
    refine (sparse_is s n true _ HN HO).mono ?_
    rintro e w' ⟨rfl, rfl⟩
    go_wp2_with fail
    refine (bits_is s n true _ HN HO).mono ?_
    rintro e w' ⟨rfl, rfl⟩
    go_wp2_with fail
    refine (told_any _).mono ?_
    rintro e w1 ⟨rfl, hb1⟩
    go_wp2_with fail
    refine (stext_any n _ hlt).mono ?_
    rintro e w2 ⟨rfl, hb2⟩
    go_wp2_with fail
    refine (rtext_any n _ hlt).mono ?_
    rintro e w3 ⟨rfl, hb3⟩
    go_wp2_with fail
    refine (hex_any b _ hb).mono ?_
    rintro e w4 ⟨rfl, hb4⟩
    go_wp2_with fail
    refine (sparse_is _ b true _ H2 H1).mono ?_
    rintro e w' ⟨rfl, rfl⟩
    go_wp2_with fail
    refine (stext_any b _ hb).mono ?_
    rintro e w5 ⟨rfl, hb5⟩
    go_wp2_with fail
    refine (rtext_any b _ hb).mono ?_
    rintro e w6 ⟨rfl, hb6⟩
    go_wp2_with fail
    go_ret
    exact ⟨rfl, (bthen (bthen (bthen (bthen (bthen hb1 hb2) hb3) hb4) hb5) hb6)⟩
  · rw [Bool.not_eq_true] at h
    have HO := Lib.hid h
    have HN : Hid (hexNum s = 0) := by unfold hexNum; rw [h]; rfl
    clear h hlt
    go_enter Try.func3, Try.ntmps3
    go_wp2_with fail
    refine (sparse_is s 0 false _ HN HO).mono ?_
    rintro e w' ⟨rfl, rfl⟩
    go_wp2_with fail
    refine (bits_is s 0 false _ HN HO).mono ?_
    rintro e w' ⟨rfl, rfl⟩
    go_wp2_with fail
    refine (told_any _).mono ?_
    rintro e w1 ⟨rfl, hb1⟩
    go_wp2_with fail
    refine (stext_any 0 _ (by decide)).mono ?_
    rintro e w2 ⟨rfl, hb2⟩
    go_wp2_with fail
    refine (rtext_any 0 _ (by decide)).mono ?_
    rintro e w3 ⟨rfl, hb3⟩
    go_wp2_with fail
    refine (hex_any b _ hb).mono ?_
    rintro e w4 ⟨rfl, hb4⟩
    go_wp2_with fail
    refine (sparse_is _ b true _ H2 H1).mono ?_
    rintro e w' ⟨rfl, rfl⟩
    go_wp2_with fail
    refine (stext_any b _ hb).mono ?_
    rintro e w5 ⟨rfl, hb5⟩
    go_wp2_with fail
    refine (rtext_any b _ hb).mono ?_
    rintro e w6 ⟨rfl, hb6⟩
    go_wp2_with fail
    go_ret
    exact ⟨rfl, (bthen (bthen (bthen (bthen (bthen hb1 hb2) hb3) hb4) hb5) hb6)⟩
theorem scoreParses_walk (a0 : ByteArray) (a1 : Int) (w0 : a0.size ≤ maxLen) (w1 : (Lit.int .u64 a1).wf = true) (w : World) :
    Calls Try.prog 3 #[.string a0, .int .u64 a1] w fun e w' => e = .returned (.bool true) ∧ Below w.heap.size w w' := by
  obtain ⟨b, rfl, hb⟩ := nat_of_u64 w1
  exact scoreParses_nat a0 b hb w
theorem scoreKinds_walk (a0 : Int) (w0 : (Lit.int .u64 a0).wf = true) (w : World) :
    Calls Try.prog 4 #[.int .u64 a0] w fun e w' => e = .returned (.bool true) ∧ Below w.heap.size w w' := by
  obtain ⟨b, rfl, hb⟩ := nat_of_u64 w0
  generalize hk : kindN b = k
  have HK := Lib.hid hk
  clear hk
  go_enter Try.func4, Try.ntmps4
  go_wp2_with fail
  refine (told_any _).mono ?_
  rintro e w1 ⟨rfl, hb1⟩
  go_wp2_with fail
  refine (of_any b _ hb).mono ?_
  rintro e w2 ⟨rfl, hb2⟩
  go_wp2_with fail
  refine (kind_is b k _ hb HK).mono ?_
  rintro e w' ⟨rfl, rfl⟩
  go_wp2_with fail
  refine (rkind_is b k _ hb HK).mono ?_
  rintro e w' ⟨rfl, rfl⟩
  go_wp2_with fail
  go_ret
  exact ⟨rfl, (bthen hb1 hb2)⟩
end Go.Proofs.Ytflcbbohnkgokaa
