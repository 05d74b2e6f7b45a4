/- The document's digits are strconv's: the law's number is Itoa's text. -/
import Derived.Test.YtoebfmhogkjmgaaGreatDoorRow
import Derived.Test.YtoebfmhogkjmgaaGreatDoorProg
import Derived.Lib.ItoaNum
import Derived.OwnWalk
import Derived.Laws.OwnMore
namespace Go.Proofs.YtoebfmhogkjmgaaGreatDoor
open Go.RowKit
set_option linter.unusedVariables false
theorem dec_len : ∀ (k u : Nat), u < 10 ^ (k + 1) → (Lib.decDigits u).length ≤ k + 1 := by
  intro k
  induction k with
  | zero => intro u h; rw [Lib.decDigits, dif_pos (by omega)]; simp
  | succ k ih =>
    intro u h
    rw [Lib.decDigits]
    split
    · simp
    · have := ih (u / 10) (by rw [Nat.pow_succ] at h; omega)
      simp; omega
theorem dec_last {u : Nat} (h : u < 10) : Lib.decDigits u = [UInt8.ofNat (48 + u % 10)] := by
  rw [Lib.decDigits, dif_pos h, Nat.mod_eq_of_lt h]
theorem dec_step {u : Nat} (h : ¬ u < 10) : Lib.decDigits u = Lib.decDigits (u / 10) ++ [UInt8.ofNat (48 + u % 10)] := by
  conv => lhs; rw [Lib.decDigits, dif_neg h]
theorem conv1 (wx : World) (n : Int) : (convert 38 9 (.slice (some ⟨wx.heap.size, 0, none⟩) 1 1)).run Tryz.prog (wx.alloc (.cells #[.int .u8 n] 5)) = .ok (.string ⟨#[UInt8.ofNat n.toNat]⟩) (wx.alloc (.cells #[.int .u8 n] 5)) := by
  refine run_convert_bytes_arg _ 38 5 Tryz.underlying38 Tryz.underlying5 _ 0 1 1 [n] rfl (fun i hi => ?_) 9 Tryz.underlying9
  obtain rfl : i = 0 := by omega
  simp [go_sem]
theorem u8_48 (m : Nat) : 48 + UInt8.ofNat m = UInt8.ofNat (48 + m) := by rw [UInt8.ofNat_add]; rfl
theorem cons_str (c : UInt8) (l : List UInt8) : (⟨#[c]⟩ : ByteArray) ++ ⟨l.toArray⟩ = ⟨(c :: l).toArray⟩ := by
  apply ByteArray.ext
  simp
theorem app_str (a b : List UInt8) : (⟨a.toArray⟩ : ByteArray) ++ ⟨b.toArray⟩ = ⟨(a ++ b).toArray⟩ := by
  apply ByteArray.ext
  simp
theorem digits_any (N : Nat) (hN : N < 9223372036854775808) (res : List UInt8) (hr : Hid (Lib.decDigits N = res)) (w : World) :
    Calls Tryz.prog 7 #[.int .i64 N] w fun e w' => e = .returned (.string ⟨res.toArray⟩) ∧ Below w.heap.size w w' := by
  have hlen : res.length ≤ 20 := by
    rw [← hr.out]
    exact dec_len 19 N (by omega)
  have kc := conv1
  go_enter Tryz.func7, Tryz.ntmps7
  go_wp2
  go_loopw [0, 3] (fun n s wr => ∃ (k : Nat) (rest : List UInt8), n = .int .i64 k ∧ k < 9223372036854775808 ∧ s = .string ⟨rest.toArray⟩ ∧ Lib.decDigits k ++ rest = res ∧ Below w.heap.size w wr) (fun n _ _ => (intOf n).toNat)
  case atStart => exact ⟨N, [], rfl, hN, rfl, by rw [hr.out]; simp, Below.refl _ _⟩
  case round =>
    obtain ⟨k, rest, rfl, hk, rfl, hd, hb⟩ := hrel
    have hrl : rest.length ≤ 20 := by
      have := congrArg List.length hd
      rw [List.length_append] at this
      omega
    have HD := Lib.hid hd
    clear hd
    by_cases hlt : k < 10
    · go_wp2
      go_ret
      refine ⟨?_, hb.alloc hb.size _⟩
      rw [u8_48, cons_str, ← HD.out, dec_last hlt]
      rfl
    · go_wp2
      refine ⟨⟨k / 10, UInt8.ofNat (48 + k % 10) :: rest, by simp, by omega, by rw [u8_48, cons_str], ?_, hb.alloc hb.size _⟩, ?_⟩
      · rw [← HD.out, dec_step hlt, List.append_assoc]
        rfl
      · simp [intOf]; omega
theorem number_pos (n : Int) (h0 : 0 ≤ n) (h1 : n ≤ 9223372036854775807) (w : World) :
    Calls Tryz.prog 4 #[.int .i64 n] w fun e w' => e = .returned (.string ⟨(Lib.itoa n).toArray⟩) ∧ Below w.heap.size w w' := by
  obtain ⟨N, rfl⟩ := Int.eq_ofNat_of_zero_le h0
  have e : Lib.itoa (N : Int) = Lib.decDigits N := by
    unfold Lib.itoa
    rw [if_neg (by omega)]
    rfl
  rw [e]
  generalize hr : Lib.decDigits N = res
  have HR := Lib.hid hr
  clear hr e
  go_enter Tryz.func4, Tryz.ntmps4
  go_wp2_with fail
  refine (digits_any N (by omega) res HR _).mono ?_
  rintro e w1 ⟨rfl, hb1⟩
  go_wp2_with fail
  go_ret
  exact ⟨rfl, hb1⟩
theorem number_neg (n : Int) (h0 : n < 0) (h1 : -9223372036854775808 ≤ n) (w : World) :
    Calls Tryz.prog 4 #[.int .i64 n] w fun e w' => e = .returned (.string ⟨(Lib.itoa n).toArray⟩) ∧ Below w.heap.size w w' := by
  by_cases hm : n = -9223372036854775808
  · subst hm
    have e : Lib.itoa (-9223372036854775808) = [45, 57, 50, 50, 51, 51, 55, 50, 48, 51, 54, 56, 53, 52, 55, 55, 53, 56, 48, 56] := by decide +kernel
    rw [e]
    go_enter Tryz.func4, Tryz.ntmps4
    go_wp2_with fail
    go_ret
    exact ⟨rfl, Below.refl _ _⟩
  · obtain ⟨N, hN⟩ : ∃ N : Nat, -n = (N : Int) := ⟨(-n).toNat, by omega⟩
    have e : Lib.itoa n = 45 :: Lib.decDigits N := by
      unfold Lib.itoa
      rw [if_pos h0, show n.natAbs = N by omega]
    rw [e]
    have hlen : (Lib.decDigits N).length ≤ 20 := dec_len 19 N (by omega)
    generalize hr : Lib.decDigits N = res at hlen ⊢
    have HR := Lib.hid hr
    clear hr e
    go_enter Tryz.func4, Tryz.ntmps4
    go_wp2_with fail
    refine (digits_any N (by omega) res HR _).mono ?_
    rintro e w1 ⟨rfl, hb1⟩
    have hc := cons_str 45 res
    go_wp2_with fail
    go_ret
    exact ⟨rfl, hb1⟩
theorem number_any (n : Int) (h0 : -9223372036854775808 ≤ n) (h1 : n ≤ 9223372036854775807) (w : World) :
    Calls Tryz.prog 4 #[.int .i64 n] w fun e w' => e = .returned (.string ⟨(Lib.itoa n).toArray⟩) ∧ Below w.heap.size w w' := by
  by_cases h : n < 0
  · exact number_neg n h h0 w
  · exact number_pos n (by omega) h1 w
theorem itoa_len (n : Int) (h0 : -9223372036854775808 ≤ n) (h1 : n ≤ 9223372036854775807) : (Lib.itoa n).length ≤ 21 := by
  unfold Lib.itoa
  split
  · have := dec_len 19 n.natAbs (by omega)
    simp; omega
  · have := dec_len 19 n.toNat (by omega)
    omega
end Go.Proofs.YtoebfmhogkjmgaaGreatDoor
