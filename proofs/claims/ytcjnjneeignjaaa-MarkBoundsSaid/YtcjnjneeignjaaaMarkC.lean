/- Contracts of the walks of math/bits.OnesCount32 and (mark.Labels).Count: how many of a number's bits are set; no condition but the argument's own range. -/
import Derived.Test.YtcjnjneeignjaaaMarkParsesW
import Derived.Lib.Tables
import Derived.Lib.BitFns
namespace Go.Proofs.Ytcjnjneeignjaaa
open Go.RowKit
set_option linter.unusedVariables false
/-- how many of the first k bits are set -/
def pop (n k : Nat) : Nat := ((List.range k).filter fun j => n.testBit j).length
theorem letters_pop (n k : Nat) : (letters n k).length = pop n k := by simp [letters, lettersN, pop]
theorem fold_tab : (⟨((([0, 1, 1, 2, 1, 2, 2, 3, 1, 2, 2, 3, 2, 3, 3, 4, 1, 2, 2, 3, 2, 3, 3, 4, 2, 3, 3, 4, 3, 4, 4, 5, 1, 2, 2, 3, 2, 3, 3, 4, 2, 3, 3, 4, 3, 4, 4, 5, 2, 3, 3, 4, 3, 4, 4, 5, 3, 4, 4, 5, 4, 5, 5, 6] : List UInt8).append [1, 2, 2, 3, 2, 3, 3, 4, 2, 3, 3, 4, 3, 4, 4, 5, 2, 3, 3, 4, 3, 4, 4, 5, 3, 4, 4, 5, 4, 5, 5, 6, 2, 3, 3, 4, 3, 4, 4, 5, 3, 4, 4, 5, 4, 5, 5, 6, 3, 4, 4, 5, 4, 5, 5, 6, 4, 5, 5, 6, 5, 6, 6, 7]).append ([1, 2, 2, 3, 2, 3, 3, 4, 2, 3, 3, 4, 3, 4, 4, 5, 2, 3, 3, 4, 3, 4, 4, 5, 3, 4, 4, 5, 4, 5, 5, 6, 2, 3, 3, 4, 3, 4, 4, 5, 3, 4, 4, 5, 4, 5, 5, 6, 3, 4, 4, 5, 4, 5, 5, 6, 4, 5, 5, 6, 5, 6, 6, 7].append [2, 3, 3, 4, 3, 4, 4, 5, 3, 4, 4, 5, 4, 5, 5, 6, 3, 4, 4, 5, 4, 5, 5, 6, 4, 5, 5, 6, 5, 6, 6, 7, 3, 4, 4, 5, 4, 5, 5, 6, 4, 5, 5, 6, 5, 6, 6, 7, 4, 5, 5, 6, 5, 6, 6, 7, 5, 6, 6, 7, 6, 7, 7, 8])).toArray⟩ : ByteArray) = Lib.pop8tab := by decide +kernel
theorem pop8_pop : ∀ n : Fin 256, Lib.pop8 (n.val : Int) = (pop n.val 8 : Nat) := by decide +kernel
theorem pop_le (n k : Nat) : pop n k ≤ k := by have := List.length_filter_le (fun j => n.testBit j) (List.range k); simpa [pop] using this
theorem pop_split (n k m : Nat) : pop n (k + m) = pop n k + pop (n / 2 ^ k) m := by
  induction m with
  | zero => simp [pop]
  | succ m ih =>
    have e1 : pop n (k + (m + 1)) = pop n (k + m) + if n.testBit (k + m) then 1 else 0 := by
      unfold pop
      rw [← Nat.add_assoc, List.range_succ, List.filter_append]
      by_cases h : n.testBit (k + m) = true <;> simp [h]
    have e2 : pop (n / 2 ^ k) (m + 1) = pop (n / 2 ^ k) m + if n.testBit (k + m) then 1 else 0 := by
      unfold pop
      rw [List.range_succ, List.filter_append]
      have e : (n / 2 ^ k).testBit m = n.testBit (k + m) := by rw [Nat.testBit_div_two_pow, Nat.add_comm]
      by_cases h : n.testBit (k + m) = true <;> simp [h, e]
    rw [e1, e2, ih]; omega
theorem pop_mod (n k m : Nat) (h : m ≤ k) : pop (n % 2 ^ k) m = pop n m := by
  unfold pop
  congr 1
  apply List.filter_congr
  intro j hj
  rw [Nat.testBit_mod_two_pow]
  have := List.mem_range.1 hj
  simp; intro _; omega
theorem and255 (m : Nat) (h : m < 4294967296) : bits .and .u32 (m : Int) 255 = ((m % 256 : Nat) : Int) := by
  rw [u32_and _ _ (by omega) (by omega) (by omega) (by omega), Int.toNat_natCast]
  exact congrArg _ (Nat.and_two_pow_sub_one_eq_mod m 8)
theorem pop_four (n : Nat) : pop n 32 = pop (n / 16777216 % 256) 8 + pop (n / 65536 % 256) 8 + pop (n / 256 % 256) 8 + pop (n % 256) 8 := by
  have h1 := pop_split n 8 24
  have h2 := pop_split (n / 2 ^ 8) 8 16
  have h3 := pop_split (n / 2 ^ 8 / 2 ^ 8) 8 8
  rw [Nat.div_div_eq_div_mul, Nat.div_div_eq_div_mul] at h3
  rw [Nat.div_div_eq_div_mul] at h2
  have m1 := pop_mod n 8 8 (by omega)
  have m2 := pop_mod (n / 256) 8 8 (by omega)
  have m3 := pop_mod (n / 65536) 8 8 (by omega)
  have m4 := pop_mod (n / 16777216) 8 8 (by omega)
  simp only [Nat.reduceAdd, Nat.reducePow, Nat.reduceMul] at *
  omega
set_option maxRecDepth 100000 in
theorem onesCount_any (n : Nat) (w : World) (hn : n < 4294967296) :
    Calls Try.prog 25 #[.int .u32 n] w fun e w' => e = .returned (.int .i64 (pop n 32 : Nat)) ∧ Below w.heap.size w w' := by
  have H4 := Lib.hid (pop_four n)
  obtain ⟨a, ha, ha', Ha⟩ : ∃ a : Nat, (n : Int) / 16777216 = a ∧ (a : Int) ≤ 255 ∧ Hid (n / 16777216 % 256 = a) := ⟨n / 16777216, by omega, by omega, Lib.hid (by omega)⟩
  obtain ⟨b, hb, hb', Hb⟩ : ∃ b : Nat, bits .and .u32 ((n : Int) / 65536) 255 = b ∧ (b : Int) ≤ 255 ∧ Hid (n / 65536 % 256 = b) := ⟨n / 65536 % 256, by rw [show (n : Int) / 65536 = ((n / 65536 : Nat) : Int) from by omega]; exact and255 _ (by omega), by omega, rfl⟩
  obtain ⟨c, hc, hc', Hc⟩ : ∃ c : Nat, bits .and .u32 ((n : Int) / 256) 255 = c ∧ (c : Int) ≤ 255 ∧ Hid (n / 256 % 256 = c) := ⟨n / 256 % 256, by rw [show (n : Int) / 256 = ((n / 256 : Nat) : Int) from by omega]; exact and255 _ (by omega), by omega, rfl⟩
  obtain ⟨d, hd, hd', Hd⟩ : ∃ d : Nat, bits .and .u32 (n : Int) 255 = d ∧ (d : Int) ≤ 255 ∧ Hid (n % 256 = d) := ⟨n % 256, and255 _ (by omega), by omega, rfl⟩
  have hf := fold_tab
  have pa := pop8_pop ⟨a, by omega⟩
  have pb := pop8_pop ⟨b, by omega⟩
  have pc := pop8_pop ⟨c, by omega⟩
  have pd := pop8_pop ⟨d, by omega⟩
  have la := pop_le a 8
  have lb := pop_le b 8
  have lc := pop_le c 8
  have ld := pop_le d 8
  rw [Ha.out, Hb.out, Hc.out, Hd.out] at H4
  go_enter Try.func25, Try.ntmps25
  go_wp2
  go_quiet (fail)
  go_wp2
  go_ret
  refine ⟨ret_int ?_, below_drewN (Below.refl _ _) _⟩
  rw [H4.out]
  first | omega | go_arith
theorem count_any (n : Nat) (w : World) (hn : n < 4294967296) :
    Calls Try.prog 23 #[.int .u32 n] w fun e w' => e = .returned (.int .i64 (pop n 26 : Nat)) ∧ Below w.heap.size w w' := by
  have ha := and_all n hn
  have H1 : Hid (pop (n % 67108864) 32 = pop n 26) := by
    have h1 := pop_split (n % 67108864) 26 6
    have h2 := pop_mod n 26 26 (by omega)
    have h3 : n % 67108864 / 2 ^ 26 = 0 := Nat.div_eq_of_lt (Nat.mod_lt _ (by decide))
    have h4 : pop 0 6 = 0 := by decide
    rw [h3, h4] at h1
    exact h1.trans h2
  generalize hm : n % 67108864 = m at *
  have hm' : m < 4294967296 := by omega
  clear hm
  go_enter Try.func23, Try.ntmps23
  go_wp2_with (go_at_call 25; refine (onesCount_any m _ hm').mono ?_; rintro e w' ⟨rfl, hb⟩)
  go_ret
  exact ⟨ret_int (by rw [H1.out]), hb⟩
/-! what is parsed of a text of bits -/
def labStr (n : Nat) : ByteArray := ⟨(labText n).toArray⟩
theorem lettersN_bd (n : Nat) : ∀ x ∈ lettersN n 26, 97 ≤ x ∧ x ≤ 122 := by
  intro x hx
  obtain ⟨j, hj, _, rfl⟩ := (mem_lettersN n 26 x).1 hx
  omega
theorem bt_letters (n i : Nat) (h : i < (lettersN n 26).length) : Go.PlainAid.bt ⟨(letters n 26).toArray⟩ i = ((lettersN n 26)[i] : Nat) := by
  have hs : i < (ByteArray.mk (letters n 26).toArray).size := by
    show i < (letters n 26).toArray.size
    simpa [letters] using h
  unfold Go.PlainAid.bt
  rw [dif_pos hs, ByteArray.getElem_eq_getElem_data]
  simp only [letters, List.getElem_toArray, List.getElem_map]
  have := lettersN_bd n _ (List.getElem_mem h)
  rw [UInt8.toNat_ofNat_of_lt' (by simp only [UInt8.size]; omega)]
theorem letters_size (n : Nat) : (ByteArray.mk (letters n 26).toArray).size = (lettersN n 26).length := by
  show (letters n 26).toArray.size = _
  simp [letters]
theorem letters_lab (n : Nat) : LabTo ⟨(letters n 26).toArray⟩ (ByteArray.mk (letters n 26).toArray).size := by
  intro i hi
  rw [letters_size] at hi
  unfold Lab1
  rw [bt_letters n i hi]
  have h1 := lettersN_bd n _ (List.getElem_mem hi)
  refine ⟨by omega, by omega, ?_⟩
  by_cases h0 : i = 0
  · exact .inl h0
  · right
    rw [bt_letters n (i - 1) (by omega)]
    have := List.pairwise_iff_getElem.1 (lettersN_sorted n 26) (i - 1) i (by omega) hi (by omega)
    omega
theorem letters_sum (n : Nat) : labSum ⟨(letters n 26).toArray⟩ (ByteArray.mk (letters n 26).toArray).size = n % 67108864 := by
  have e : (67108864 : Nat) = 2 ^ 26 := rfl
  rw [e]
  apply Nat.eq_of_testBit_eq
  intro j
  rw [Bool.eq_iff_iff, labSum_bit _ _ _ (letters_lab n), Nat.testBit_mod_two_pow]
  simp only [Bool.and_eq_true, decide_eq_true_eq]
  rw [letters_size]
  constructor
  · rintro ⟨i, hi, hb⟩
    rw [bt_letters n i hi] at hb
    obtain ⟨k, hk, hk2, hk3⟩ := (mem_lettersN n 26 _).1 (List.getElem_mem hi)
    rw [hk3] at hb
    obtain rfl : k = j := by omega
    exact ⟨hk, hk2⟩
  · rintro ⟨hj, hb⟩
    obtain ⟨i, hi, he⟩ := List.getElem_of_mem ((mem_lettersN n 26 (97 + j)).2 ⟨j, hj, hb, rfl⟩)
    exact ⟨i, hi, by rw [bt_letters n i hi, he]; omega⟩
theorem letters_ne (n : Nat) : letters n 26 ≠ [45] := by
  intro h
  have h1 : 45 ∈ (letters n 26) := by rw [h]; simp
  obtain ⟨x, hx, hx2⟩ := List.mem_map.1 h1
  have h2 := lettersN_bd n x hx
  have h3 := congrArg UInt8.toNat hx2
  rw [UInt8.toNat_ofNat_of_lt' (by simp only [UInt8.size]; omega)] at h3
  have : (45 : UInt8).toNat = 45 := rfl
  omega
theorem labStr_parses (n : Nat) : labOk (labStr n) = true ∧ labNum (labStr n) = n % 67108864 := by
  by_cases h0 : n % 67108864 = 0
  · have e : labStr n = ⟨#[45]⟩ := by unfold labStr labText; rw [if_pos (letters_none n h0)]
    rw [e, h0]
    decide +kernel
  · have hne := letters_some n h0
    have e : labStr n = ⟨(letters n 26).toArray⟩ := by unfold labStr labText; rw [if_neg hne]
    rw [e]
    have hm : ((ByteArray.mk (letters n 26).toArray).data.toList == [45]) = false := by
      rw [beq_eq_false_iff_ne]; exact letters_ne n
    have hz : ((ByteArray.mk (letters n 26).toArray).size != 0) = true := by
      rw [bne_iff_ne, letters_size]
      intro h
      exact hne (by unfold letters; rw [List.length_eq_zero_iff.1 h]; rfl)
    constructor
    · unfold labOk
      rw [hm, decide_eq_true (letters_lab n), hz]; rfl
    · unfold labNum
      rw [hm, if_neg (by decide), if_pos (letters_lab n), letters_sum]
theorem und_lt (n : Nat) (hn : n < 4294967296) : undB n 67108863 = decide (n < 67108864) := by
  by_cases h : n < 67108864
  · rw [und_all n h, decide_eq_true h]
  · rw [decide_eq_false h]
    refine decide_eq_false fun hu => h ?_
    have : n < 2 ^ 26 := by
      apply Nat.lt_pow_two_of_testBit
      intro i hi
      cases hb : n.testBit i
      · rfl
      · by_cases h32 : i < 32
        · have := hu i h32 hb
          rw [show (67108863 : Nat) = 2 ^ 26 - 1 from rfl, Nat.testBit_two_pow_sub_one, decide_eq_true_eq] at this
          omega
        · rw [Nat.testBit_lt_two_pow (Nat.lt_of_lt_of_le hn (show 2 ^ 32 ≤ 2 ^ i from Nat.pow_le_pow_right (by decide) (by omega)))] at hb
          cases hb
    exact this
end Go.Proofs.Ytcjnjneeignjaaa
