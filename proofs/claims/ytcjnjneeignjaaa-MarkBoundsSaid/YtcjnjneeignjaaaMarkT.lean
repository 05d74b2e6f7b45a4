/- Contracts of the walks of (mark.Labels).Text and the reference's Text: the letters of a number's bits, or a dash; no condition but the argument's own range. -/
import Derived.Test.YtcjnjneeignjaaaMarkA
import Derived.OwnWalk
import Derived.Laws.OwnMore
namespace Go.Proofs.Ytcjnjneeignjaaa
open Go.RowKit
set_option linter.unusedVariables false
theorem bit_and1 (n k : Nat) (hn : n < 4294967296) : bits .and .u32 ((n : Int) / 2 ^ k) 1 = if n.testBit k then 1 else 0 := by
  have e : ((n : Int) / 2 ^ k) = ((n / 2 ^ k : Nat) : Int) := by simp
  have hle : n / 2 ^ k ≤ n := Nat.div_le_self _ _
  rw [e, Nat.testBit_eq_decide_div_mod_eq]
  generalize n / 2 ^ k = m at *
  rw [u32_and _ _ (by omega) (by omega) (by omega) (by omega), Int.toNat_natCast]
  have h1 : m &&& Int.toNat 1 = m % 2 := Nat.and_one_is_mod m
  rw [h1]
  by_cases h : m % 2 = 1
  · simp [h]
  · simp [h]; omega
theorem and_all (n : Nat) (hn : n < 4294967296) : bits .and .u32 (n : Int) 67108863 = ((n % 67108864 : Nat) : Int) := by
  rw [u32_and _ _ (by omega) (by omega) (by omega) (by omega), Int.toNat_natCast]
  exact congrArg _ (Nat.and_two_pow_sub_one_eq_mod n 26)
theorem letters_none (n : Nat) (h : n % 67108864 = 0) : letters n 26 = [] := by
  have : lettersN n 26 = [] := by
    rw [List.eq_nil_iff_forall_not_mem]
    intro x hx
    obtain ⟨j, hj, hb, _⟩ := (mem_lettersN n 26 x).1 hx
    have h2 := Nat.testBit_mod_two_pow n 26 j
    rw [show (2 : Nat) ^ 26 = 67108864 from rfl, h] at h2
    simp [hj, hb] at h2
  simp [letters, this]
theorem letters_some (n : Nat) (h : ¬ n % 67108864 = 0) : ¬ letters n 26 = [] := by
  intro he
  apply h
  have h0 : lettersN n 26 = [] := List.map_eq_nil_iff.1 he
  have h1 : n % 2 ^ 26 = 0 := by
    apply Nat.eq_of_testBit_eq
    intro j
    rw [Nat.testBit_mod_two_pow, Nat.zero_testBit]
    by_cases hj : j < 26
    · cases hb : n.testBit j
      · simp
      · have := (mem_lettersN n 26 (97 + j)).2 ⟨j, hj, hb, rfl⟩
        rw [h0] at this
        cases this
    · simp [hj]
  exact h1
theorem info_u8 : (Try.prog.info? 5).map (fun i => (i.zero, i.size, i.bytes)) = some (some (.int .u8 0), 1, 1) := by kernel_rfl
theorem letters_yes (n k : Nat) (h : n.testBit k = true) : letters n (k + 1) = letters n k ++ [UInt8.ofNat (97 + k)] := by rw [letters_succ, if_pos h]
theorem letters_no (n k : Nat) (h : n.testBit k = false) : letters n (k + 1) = letters n k := by rw [letters_succ, if_neg (by rw [h]; decide)]
theorem u8_97 (k : Nat) : 97 + UInt8.ofNat k = UInt8.ofNat (97 + k) := by rw [UInt8.ofNat_add]; rfl
theorem byteVals_snoc (l : List UInt8) (c : UInt8) : byteVals (l ++ [c]) = byteVals l ++ [.int .u8 (c.toNat : Int)] := by simp [byteVals]
theorem byteVals_length (l : List UInt8) : (byteVals l).length = l.length := by simp [byteVals]
/-- 'string(b)' of a row of bytes of the call's own -/
theorem conv_own (w : World) (base : Nat) (l : List UInt8) (v : Value) (hown : w.ownsRow base 5 1 v l.length (byteVals l)) (hne : l ≠ []) :
    (convert 53 9 v).run Try.prog w = .ok (.string ⟨l.toArray⟩) w := by
  have hown0 := hown
  obtain ⟨hl, h⟩ := hown
  rcases h with ⟨rfl, h0⟩ | ⟨g, cap, cur, rfl, hg⟩
  · exact absurd (List.length_eq_zero_iff.1 h0) hne
  · rw [← strOf_byteVals l]
    refine run_convert_bytes_arg _ 53 5 Try.underlying53 Try.underlying5 _ 0 l.length cap (l.map fun c => (c.toNat : Int)) (by simp) (fun i hi => ?_) 9 Try.underlying9
    have := hown0.cellAt i (by omega)
    rw [Nat.zero_add, this]
    simp [byteVals, hi]
theorem labelsText_any (n : Nat) (w : World) (hn : n < 4294967296) :
    Calls Try.prog 18 #[.int .u32 n] w fun e w' => e = .returned (.string ⟨(labText n).toArray⟩) ∧ Below w.heap.size w w' := by
  have ha := and_all n hn
  by_cases h0 : n % 67108864 = 0
  · have hz : ((n % 67108864 : Nat) : Int) = 0 := by omega
    rw [hz] at ha
    go_enter Try.func18, Try.ntmps18
    go_wp2
    go_ret
    exact ⟨ret_str (by unfold labText; rw [if_pos (letters_none n h0)]), Below.refl _ _⟩
  · have hz : ((n : Int) % 67108864 == 0) = false := by simp; omega
    obtain ⟨i0, hi, hz0, hz1, hz2⟩ := info_parts info_u8
    go_enter Try.func18, Try.ntmps18
    go_wp2
    go_loopw [3, 8] (fun b i wr => ∃ k : Nat, k ≤ 26 ∧ i = .int .i64 k ∧ wr.ownsRow w.heap.size 5 1 b (letters n k).length (byteVals (letters n k)) ∧ Below w.heap.size w wr) (fun _ i _ => 26 - (intOf i).toNat)
    case atStart => exact ⟨0, by omega, rfl, World.ownsRow_nil _ _ _ _, Below.refl _ _⟩
    case round =>
      obtain ⟨k, hk, rfl, hown, hb⟩ := hrel
      have hlen := letters_length n k
      have hsz := hb.size
      by_cases hlt : k < 26
      · have hbit := bit_and1 n k hn
        cases hb1 : n.testBit k
        · have HLS := Lib.hid (letters_no n k hb1)
          rw [hb1] at hbit
          go_wp2
          go_roundw
          case rel => exact ⟨k + 1, by omega, by go_num, by rw [HLS.out]; exact hown, hb⟩
          case measure => simp [intOf]; omega
        · have HLS := Lib.hid (letters_yes n k hb1)
          rw [hb1] at hbit
          go_wp2_with (at_builtin; refine wpList_append_own _ rfl _ _ 53 rfl w.heap.size 5 i0 (.int .u8 0) 1 1 Try.underlying53 hi hz0 hz1 hz2 rfl (by decide) _ _ _ rfl (hown.alloc _) ⟨wr.heap.size, 0, none⟩ 1 1 [.int .u8 (97 + (k : Int))] rfl rfl ?c1 ?c2 ?c3 ?c4 ?c5 ?_)
          case c2 => simp [Value.oneCell']
          case c3 => unfold maxLen; omega
          case c4 => omega
          case c5 => omega
          intro v' w1 hown' hgrow _
          have hb2 : Below w.heap.size w w1 := (hb.alloc hsz _).grown hgrow (by simp; omega) (fun g hg => (hown.lt g hg).1)
          have hown2 : w1.ownsRow w.heap.size 5 1 v' (letters n (k + 1)).length (byteVals (letters n (k + 1))) := by
            rw [HLS.out, byteVals_snoc, List.length_append, List.length_singleton]
            have e : ((UInt8.ofNat (97 + k)).toNat : Int) = 97 + (k : Int) := by rw [UInt8.toNat_ofNat_of_lt' (by simp [UInt8.size]; omega)]; omega
            rw [e]
            exact hown'
          clear hown' hgrow
          go_wp2
          go_roundw
          case rel => exact ⟨k + 1, by omega, by go_num, hown2, hb2⟩
          case measure => simp [intOf]; omega
      · obtain rfl : k = 26 := by omega
        have hc := conv_own wr w.heap.size _ _ hown (letters_some n h0)
        go_wp2
        go_ret
        exact ⟨ret_str (by unfold labText; rw [if_neg (letters_some n h0)]), hb⟩
theorem rtext_any (n : Nat) (w : World) (hn : n < 4294967296) :
    Calls Try.prog 22 #[.int .u32 n] w fun e w' => e = .returned (.string ⟨(labText n).toArray⟩) ∧ Below w.heap.size w w' := by
  have kc := conv1
  go_enter Try.func22, Try.ntmps22
  go_wp2
  go_loopw [3, 4] (fun s i wr => ∃ k : Nat, k ≤ 26 ∧ i = .int .i64 k ∧ s = .string ⟨(letters n k).toArray⟩ ∧ Below w.heap.size w wr) (fun _ i _ => 26 - (intOf i).toNat)
  case atStart => exact ⟨0, by omega, rfl, rfl, Below.refl _ _⟩
  case round =>
    obtain ⟨k, hk, rfl, rfl, hb⟩ := hrel
    have hlen := letters_length n k
    by_cases hlt : k < 26
    · have hbit := bit_div n k
      cases hb1 : n.testBit k
      · have HLS := Lib.hid (letters_no n k hb1)
        rw [hb1] at hbit
        go_wp2
        go_roundw
        case rel => exact ⟨k + 1, by omega, by go_num, by rw [HLS.out], hb⟩
        case measure => simp [intOf]; omega
      · have HLS := Lib.hid (letters_yes n k hb1)
        rw [hb1] at hbit
        go_wp2
        go_roundw
        case rel => exact ⟨k + 1, by omega, by go_num, snoc_str _ _ (UInt8.ofNat (97 + k)) _ HLS.out (u8_97 k), hb.alloc hb.size _⟩
        case measure => simp [intOf]; omega
    · obtain rfl : k = 26 := by omega
      by_cases h0 : letters n 26 = []
      · rw [h0]
        go_wp2
        go_ret
        exact ⟨ret_str (by unfold labText; rw [if_pos h0]), hb⟩
      · have h1 : (letters n 26).isEmpty = false := by
          cases hl : letters n 26
          · exact absurd hl h0
          · rfl
        go_wp2
        go_ret
        exact ⟨ret_str (by unfold labText; rw [if_neg h0]), hb⟩
end Go.Proofs.Ytcjnjneeignjaaa
