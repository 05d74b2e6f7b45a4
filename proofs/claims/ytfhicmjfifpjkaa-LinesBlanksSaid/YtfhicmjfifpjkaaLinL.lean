/- The walk of LinesBlanks. -/
import Derived.Test.YtfhicmjfifpjkaaLinK
import Derived.Test.YtfhicmjfifpjkaaLinR
namespace Go.Proofs.Ytfhicmjfifpjkaa
open Go.RowKit
set_option linter.unusedVariables false
theorem cat_str (a b : List UInt8) : (ByteArray.mk a.toArray) ++ (ByteArray.mk b.toArray) = ⟨(a ++ b).toArray⟩ := by
  apply ByteArray.ext
  simp
theorem rem_five (a : Int) : ∃ r : Nat, wrap64 ((IntKind.u64.wrap a).tmod 5) = (r : Int) ∧ r < 5 := by
  have h0 : 0 ≤ IntKind.u64.wrap a := by rw [IntKind.wrap_u64]; omega
  refine ⟨((IntKind.u64.wrap a).tmod 5).toNat, ?_, ?_⟩
  · have h1 : 0 ≤ (IntKind.u64.wrap a).tmod 5 := by rw [Int.tmod_eq_emod_of_nonneg h0]; omega
    have h2 : (IntKind.u64.wrap a).tmod 5 < 5 := by rw [Int.tmod_eq_emod_of_nonneg h0]; omega
    rw [IntWalk.wrap64_in _ (by omega)]; omega
  · have h2 : (IntKind.u64.wrap a).tmod 5 < 5 := by rw [Int.tmod_eq_emod_of_nonneg h0]; omega
    omega
structure BlkR (ls : List (List UInt8)) (k : Nat) (P : List (List UInt8 × List UInt8)) : Prop where
  len : P.length = k
  words : P.map (·.2) = ls.take k
  all : ∀ p ∈ P, (∀ c ∈ p.1, blankC c.toNat = true) ∧ wordL p.2 = true
  gap : ∀ p ∈ P, p.1 ≠ [] ∧ p.1.length ≤ 5
theorem BlkR.step {ls : List (List UInt8)} {k : Nat} {P : List (List UInt8 × List UInt8)} (h : BlkR ls k P) (hk : k < ls.length) (hw : wordL (ls.getD k []) = true) {r : Nat} (hr : r < 5) : BlkR ls (k + 1) (P ++ [(32 :: List.replicate r 9, ls.getD k [])]) := by
  refine ⟨by simp [h.len], ?_, ?_, ?_⟩
  · rw [List.map_append, h.words, List.take_succ_eq_append_getElem hk]
    simp [List.getD, hk]
  · intro p hp
    rcases List.mem_append.1 hp with hp | hp
    · exact h.all p hp
    · rw [List.mem_singleton] at hp
      subst hp
      refine ⟨fun c hc => ?_, hw⟩
      simp only [List.mem_cons, List.mem_replicate] at hc
      rcases hc with rfl | ⟨_, rfl⟩ <;> decide
  · intro p hp
    rcases List.mem_append.1 hp with hp | hp
    · exact h.gap p hp
    · rw [List.mem_singleton] at hp
      subst hp
      exact ⟨by simp, by simp; omega⟩
theorem segs_snoc (P : List (List UInt8 × List UInt8)) (p : List UInt8 × List UInt8) : segs (P ++ [p]) = segs P ++ (p.1 ++ p.2) := by simp [segs]
set_option maxRecDepth 1000000 in
set_option maxHeartbeats 3200000 in
theorem linesBlanks_list (a0 : Option Addr) (cap0 : Nat) (ls : List (List UInt8)) (a1 : Option Addr) (cap1 : Nat) (gs : List Int) (rem : List UInt8) (w : World) (hls : ValRow w (.slice a0 ls.length cap0) (strVals ls)) (hmx : ∀ l ∈ ls, l.length ≤ maxLen)
    (hgs : IntRow .i64 w (.slice a1 gs.length cap1) gs) (hrm : rem.length ≤ 9223372036854775807) :
    Calls Try.prog 3 #[.slice a0 ls.length cap0, .slice a1 gs.length cap1, .string ⟨rem.toArray⟩] w fun e w' => e = .returned (.bool true) ∧ Below w.heap.size w w' := by
  have hl0 := hls.len
  rw [strVals_length] at hl0
  have hg0 := hgs.len
  unfold maxLen at hl0 hg0
  have HLS := Lib.hid hls
  have HGS := Lib.hid hgs
  have HMX := Lib.hid hmx
  clear hls hgs hmx
  have hgb := get_by8 rem
  go_enter Try.func3, Try.ntmps3
  go_wp2_with fail
  refine (lread_any _).mono ?_
  rintro e w1 ⟨rfl, hb1⟩
  by_cases h1 : ls.length < 1
  · have hd1 : decide ((ls.length : Int) < 1) = true := decide_eq_true (by omega)
    go_wp2_with fail
    refine (lread_any _).mono ?_
    rintro e w2 ⟨rfl, hb2⟩
    go_wp2_with fail
    go_ret
    exact ⟨rfl, hb1.trans (hb2.mono hb1.size)⟩
  have hd1 : decide ((ls.length : Int) < 1) = false := decide_eq_false (by omega)
  by_cases h2 : 20 < ls.length
  · have hd2 : decide ((20 : Int) < (ls.length : Int)) = true := decide_eq_true (by omega)
    go_wp2_with fail
    refine (lread_any _).mono ?_
    rintro e w2 ⟨rfl, hb2⟩
    go_wp2_with fail
    go_ret
    exact ⟨rfl, hb1.trans (hb2.mono hb1.size)⟩
  have hd2 : decide ((20 : Int) < (ls.length : Int)) = false := decide_eq_false (by omega)
  by_cases h3 : gs.length < ls.length
  · have hd3 : decide (gs.length < ls.length) = true := decide_eq_true h3
    go_wp2_with fail
    refine (lread_any _).mono ?_
    rintro e w2 ⟨rfl, hb2⟩
    go_wp2_with fail
    go_ret
    exact ⟨rfl, hb1.trans (hb2.mono hb1.size)⟩
  have hd3 : decide (gs.length < ls.length) = false := decide_eq_false h3
  by_cases h4 : 100 < rem.length
  · have hd4 : decide ((100 : Int) < (rem.length : Int)) = true := decide_eq_true (by omega)
    go_wp2_with fail
    refine (lread_any _).mono ?_
    rintro e w2 ⟨rfl, hb2⟩
    go_wp2_with fail
    go_ret
    exact ⟨rfl, hb1.trans (hb2.mono hb1.size)⟩
  have hd4 : decide ((100 : Int) < (rem.length : Int)) = false := decide_eq_false (by omega)
  have HB1 := Lib.hid hb1
  clear hb1
  go_wp2_with fail
  go_loop [7, 8] (fun s i => ∃ (k : Nat) (P : List (List UInt8 × List UInt8)) (X : List UInt8), i = .int .i64 k ∧ k ≤ ls.length ∧ s = .string ⟨X.toArray⟩ ∧ X = [10] ++ segs P ∧ BlkR ls k P) (fun _ i => ls.length - (intOf i).toNat)
  case atStart => exact ⟨0, [], [10], rfl, Nat.zero_le _, rfl, rfl, ⟨rfl, rfl, by simp, by simp⟩⟩
  case round =>
    obtain ⟨k, P, X0, rfl, hk, rfl, hX0, hP⟩ := hrel
    have HP := Lib.hid hP
    have HX0 := Lib.hid hX0
    have hXl : X0.length ≤ 1701 := by
      rw [hX0]
      have := segs_len (l := P) (m := 85) (fun p hp => by have := (hP.gap p hp).2; have := ((wordL_iff p.2).1 (hP.all p hp).2).2.1; omega)
      rw [hP.len] at this
      simp; omega
    clear hP hX0
    by_cases hlt : k < ls.length
    · obtain ⟨b, off, rfl, hbw, hcell⟩ := valRow_cells HLS.out k (by rw [strVals_length]; exact hlt)
      have hc := hcell k (by rw [strVals_length]; exact hlt)
      rw [strVals_get _ _ hlt] at hc
      have hc1 : w1.cell? ⟨b, off + k, none⟩ = some (.string ⟨(ls.getD k []).toArray⟩) := by rw [HB1.out.cell (p := ⟨b, off + k, none⟩) hbw]; exact hc
      have hgl : (ls.getD k []).length ≤ 9223372036854775807 := by
        have : (ls.getD k []) ∈ ls := by simp [List.getD, hlt]
        have := HMX.out _ this
        unfold maxLen at this; exact this
      clear hcell hc
      have HST := Lib.hid (fun hw r (hr : r < 5) => HP.out.step hlt hw (r := r) hr)
      obtain ⟨x, hx⟩ : ∃ x, ls.getD k [] = x := ⟨_, rfl⟩
      rw [hx] at hc1 hgl HST
      clear hx
      have k0 : (0 : Int) ≤ (k : Int) := by omega
      have k1 : (k : Int) < (ls.length : Int) := by omega
      have hdk : decide (k < ls.length) = true := decide_eq_true hlt
      cases hwd : wordL x with
      | false =>
        have HW := Lib.hid hwd
        clear hwd
        go_wp2_with fail
        refine (word_is x false _ hgl HW).mono ?_
        rintro e w2 ⟨rfl, rfl⟩
        go_wp2_with fail
        go_ret
        exact ⟨rfl, HB1.out⟩
      | true =>
        have HW := Lib.hid hwd
        have hx80 := ((wordL_iff x).1 hwd).2.1
        clear hwd
        obtain ⟨g, b2, o2, rfl, hbw2, hg2⟩ : ∃ g b2 o2, a1 = some ⟨b2, o2, none⟩ ∧ b2 < w.heap.size ∧ w.cell? ⟨b2, o2 + k, none⟩ = some (.int .i64 g) := by
          rcases HGS.out with ⟨_, _, h1, h0⟩ | ⟨b2, o2, cap, h1, _, _, h4, h5⟩
          · have : gs.length = 0 := by rw [h0]; rfl
            omega
          · injection h1 with h1
            exact ⟨gs.getD k 0, b2, o2, h1, h4, h5 k (by omega)⟩
        have hg1 : w1.cell? ⟨b2, o2 + k, none⟩ = some (.int .i64 g) := by rw [HB1.out.cell (p := ⟨b2, o2 + k, none⟩) hbw2]; exact hg2
        clear hg2
        obtain ⟨r, hr, hr5⟩ := rem_five g
        have HX := Lib.hid (HST.out HW.out r hr5)
        clear HST
        have k2 : (k : Int) < (gs.length : Int) := by omega
        go_wp2_with fail
        refine (word_is x true _ hgl HW).mono ?_
        rintro e w2 ⟨rfl, rfl⟩
        go_wp2_with fail
        rw [show (ByteArray.mk X0.toArray) ++ (ByteArray.mk #[32]) = ⟨(X0 ++ [32]).toArray⟩ from cat_str X0 [32]]
        obtain ⟨X, hX⟩ : ∃ X, X0 ++ [32] = X := ⟨_, rfl⟩
        rw [hX]
        have hXl2 : X.length ≤ 1702 := by rw [← hX]; simp; omega
        have HXX := Lib.hid hX
        clear hX
        go_loop [7, 9] (fun s i => ∃ j : Nat, i = .int .i64 j ∧ j ≤ r ∧ s = .string ⟨(X ++ List.replicate j 9).toArray⟩) (fun _ i => r - (intOf i).toNat)
        case atStart => exact ⟨0, rfl, Nat.zero_le _, by simp⟩
        case round =>
          obtain ⟨j, rfl, hj, rfl⟩ := hrel
          obtain ⟨Y, hY⟩ : ∃ Y, X ++ List.replicate j 9 = Y := ⟨_, rfl⟩
          rw [hY]
          have hYl : Y.length ≤ 1710 := by rw [← hY]; simp; omega
          have HY := Lib.hid hY
          clear hY
          by_cases hjr : j < r
          · have hdj : decide (j < r) = true := decide_eq_true hjr
            go_wp2_with fail
            go_round
            case rel => exact ⟨j + 1, by go_num, by omega, by
              rw [show (ByteArray.mk Y.toArray) ++ (ByteArray.mk #[9]) = ⟨(Y ++ [9]).toArray⟩ from cat_str Y [9], ← HY.out, List.append_assoc, ← List.replicate_succ']⟩
            case measure => simp [intOf]; omega
          · obtain rfl : j = r := by omega
            have hdj : decide (j < j) = false := decide_eq_false (by omega)
            clear hjr
            go_wp2_with fail
            go_round
            case rel => exact ⟨k + 1, _, Y ++ x, by go_num, by omega, by rw [cat_str Y x], by
              rw [segs_snoc, ← HY.out, ← HXX.out, HX0.out]; simp, HX.out⟩
            case measure => simp [intOf]; omega
    · obtain rfl : k = ls.length := by omega
      have hdk : decide (ls.length < ls.length) = false := decide_eq_false (by omega)
      clear hlt HGS
      go_wp2_with fail
      go_loop [10] (fun i => ∃ j : Nat, i = .int .i64 j ∧ j ≤ rem.length ∧ ∀ q, q < j → by8 rem q ≠ 10) (fun i => rem.length - (intOf i).toNat)
      case atStart => exact ⟨0, rfl, Nat.zero_le _, fun q hq => absurd hq (by omega)⟩
      case round =>
        obtain ⟨j, rfl, hj, hno⟩ := hrel
        have HNO := Lib.hid hno
        clear hno
        have j8 := by8_le rem j
        have j0 : (0 : Int) ≤ (j : Int) := by omega
        by_cases hjl : j < rem.length
        · have j1 : (j : Int) < (rem.length : Int) := by omega
          have hdj : decide (j < rem.length) = true := decide_eq_true hjl
          by_cases h10 : by8 rem j = 10
          · have hd10 : ((by8 rem j : Int) == 10) = true := ieq_t h10
            clear h10
            go_wp2_with fail
            go_ret
            exact ⟨rfl, HB1.out⟩
          · have hd10 : ((by8 rem j : Int) == 10) = false := ieq_f h10
            have H10 := Lib.hid h10
            clear h10
            go_wp2_with fail
            go_round
            case rel => exact ⟨j + 1, by go_num, by omega, fun q hq => if e : q = j then e ▸ H10.out else HNO.out q (by omega)⟩
            case measure => simp [intOf]; omega
        · obtain rfl : j = rem.length := by omega
          have hdj : decide (rem.length < rem.length) = false := decide_eq_false (by omega)
          clear hjl
          have hrm2 : ∀ c ∈ rem, c ≠ 10 := fun c hc e => by
            obtain ⟨i, hi, rfl⟩ := List.getElem_of_mem hc
            have := HNO.out i hi
            rw [by8_mem rem i hi, e] at this
            exact this rfl
          obtain ⟨cs, hread, hlen⟩ := blanks_read P rem (by rw [HP.out.len]; omega) (by rw [HP.out.len]; omega) HP.out.all HP.out.gap hrm2 (by omega)
          rw [HP.out.words, List.take_length] at hread
          have HCAT : Hid ((ByteArray.mk X0.toArray) ++ (ByteArray.mk #[32, 35]) ++ (ByteArray.mk rem.toArray) ++ (ByteArray.mk #[10, 10, 35, 32]) ++ (ByteArray.mk rem.toArray) = ⟨(X0 ++ [32, 35] ++ rem ++ [10, 10, 35, 32] ++ rem).toArray⟩) := Lib.hid (by
            have e1 : (ByteArray.mk X0.toArray) ++ (ByteArray.mk #[32, 35]) = ⟨(X0 ++ [32, 35]).toArray⟩ := cat_str X0 [32, 35]
            have e2 : (ByteArray.mk (X0 ++ [32, 35] ++ rem).toArray) ++ (ByteArray.mk #[10, 10, 35, 32]) = ⟨(X0 ++ [32, 35] ++ rem ++ [10, 10, 35, 32]).toArray⟩ := cat_str _ [10, 10, 35, 32]
            rw [e1, cat_str (X0 ++ [32, 35]) rem, e2, cat_str (X0 ++ [32, 35] ++ rem ++ [10, 10, 35, 32]) rem])
          rw [← HX0.out] at hread hlen
          obtain ⟨T, hT⟩ : ∃ T, X0 ++ [32, 35] ++ rem ++ [10, 10, 35, 32] ++ rem = T := ⟨_, rfl⟩
          rw [hT] at hread hlen HCAT
          have HRD : Hid (readTop T = .ok [⟨2, ls, cs⟩]) := Lib.hid (by unfold readTop; rw [if_neg (by omega)]; exact hread)
          clear hT hread hrm2
          go_wp2_with fail
          rw [HCAT.out]
          refine (top_read T _ _ HRD (by omega)).mono ?_
          rintro e w3 ⟨v, rfl, hrow, hb3⟩
          obtain ⟨va, vc, rfl⟩ := hrow.here.shape
          obtain ⟨c1, o1, rfl, hbw, cs1, ⟨hl1, hc1⟩, v1, u1, rfl, hv1, hu1⟩ := hrow.here.at_ 0 (by simp)
          have d0 : w3.cell? ⟨c1, o1, none⟩ = some (.int .i64 2) := hc1 0 (by omega)
          have d1 : w3.cell? ⟨c1, o1 + 1, none⟩ = some v1 := hc1 1 (by omega)
          have HV1 : Hid (ValRow w3 v1 (strVals ls)) := Lib.hid hv1
          have HBE := Lib.hid (HB1.out.trans (hb3.mono HB1.out.size))
          have HLS3 := Lib.hid (HLS.out.below HBE.out)
          clear hl1 hc1 hv1 hu1 hrow hb3 HCAT
          go_wp2_with fail
          have hbA : Below w3.heap.size w3 (w3.alloc (.cells #[.int .i64 0, .int .i64 0, .int .i64 0] 30)) := (Below.refl _ _).alloc (Nat.le_refl _) _
          refine (texts_same v1 _ ls _ (HV1.out.below hbA) (HLS3.out.below hbA)).mono ?_
          rintro e w4 ⟨rfl, m4, rfl⟩
          go_wp2_with fail
          go_ret
          exact ⟨rfl, below_drewN (HBE.out.alloc HBE.out.size _) m4⟩
theorem linesBlanks_walk (a0 : Option Addr) (len0 cap0 : Nat) (z0 : List ByteArray) (a1 : Option Addr) (len1 cap1 : Nat) (z1 : List Int) (a2 : ByteArray) (w2 : a2.size ≤ maxLen) (w : World) (w0 : IsStrs w a0 len0 cap0 z0) (w1 : IsRow .i64 w a1 len1 cap1 z1) :
    Calls Try.prog 3 #[.slice a0 len0 cap0, .slice a1 len1 cap1, .string a2] w fun e w' => e = .returned (.bool true) ∧ Below w.heap.size w w' := by
  obtain ⟨ls, rfl, hls, hmx⟩ := strs_row w0
  obtain ⟨gs, hgs, rfl, _⟩ := intRow_of w1
  have hl : a2.data.toList.length = a2.size := by rw [Array.length_toList]; rfl
  unfold maxLen at w2
  exact linesBlanks_list a0 cap0 ls a1 cap1 gs a2.data.toList w hls hmx hgs (by omega)
end Go.Proofs.Ytfhicmjfifpjkaa
