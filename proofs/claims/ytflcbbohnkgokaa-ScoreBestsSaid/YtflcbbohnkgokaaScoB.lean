/- Contracts of the walks of the score's Best and the law's told: each returns what its plain Lean function says; no condition but that the slice can be read. -/
import Derived.Test.YtflcbbohnkgokaaScoC
import Derived.Test.YtflcbbohnkgokaaVRow
namespace Go.Proofs.Ytflcbbohnkgokaa
open Go.RowKit
set_option linter.unusedVariables false
theorem bthen {a b c : World} (h : Below a.heap.size a b) (k : Below b.heap.size b c) : Below a.heap.size a c := h.trans (k.mono h.size)
def floVals (l : List Nat) : List Value := l.map fun b => Value.float .f64 b
theorem floVals_length (l : List Nat) : (floVals l).length = l.length := by simp [floVals]
theorem floVals_at (l : List Nat) (i : Nat) (h : i < l.length) : (floVals l)[i]? = some (.float .f64 (l.getD i 0)) := by simp [floVals, List.getD, h]
/-- the best of the first k -/
def bestTo (l : List Nat) : Nat → Int
  | 0 => -1
  | k + 1 => if bestTo l k < 0 ∨ 0 < cmpN (l.getD k 0) (l.getD (bestTo l k).toNat 0) then (k : Int) else bestTo l k
theorem bestTo_bd (l : List Nat) (k : Nat) : -1 ≤ bestTo l k ∧ bestTo l k < k := by
  induction k with
  | zero => simp [bestTo]
  | succ k ih => unfold bestTo; split <;> omega
theorem bestTo_yes (l : List Nat) (k : Nat) (h : bestTo l k < 0 ∨ 0 < cmpN (l.getD k 0) (l.getD (bestTo l k).toNat 0)) : bestTo l (k + 1) = k := by rw [bestTo, if_pos h]
theorem bestTo_no (l : List Nat) (k : Nat) (h : ¬ (bestTo l k < 0 ∨ 0 < cmpN (l.getD k 0) (l.getD (bestTo l k).toNat 0))) : bestTo l (k + 1) = bestTo l k := by rw [bestTo, if_neg h]
theorem cmpN_bd (a b : Nat) : -1 ≤ cmpN a b ∧ cmpN a b ≤ 1 := by unfold cmpN; split <;> (try split) <;> omega
theorem getD_lt (l : List Nat) (i : Nat) (h : ∀ x ∈ l, x < 18446744073709551616) : l.getD i 0 < 18446744073709551616 := by
  by_cases hi : i < l.length
  · exact h _ (by simp [List.getD, hi])
  · simp [List.getD, hi]
theorem compare_is (a b : Nat) (v : Int) (w : World) (ha : a < 18446744073709551616) (hb : b < 18446744073709551616) (hv : Hid (cmpN a b = v)) :
    Calls Try.prog 21 #[.float .f64 a, .float .f64 b] w fun e w' => e = .returned (.int .i64 v) ∧ w = w' := by
  have := compare_any a b w ha hb
  rwa [hv.out] at this
set_option maxHeartbeats 800000 in
theorem best_any (v : Value) (l : List Nat) (w : World) (hr : ValRow w v (floVals l)) (hl : ∀ x ∈ l, x < 18446744073709551616) :
    Calls Try.prog 23 #[v] w fun e w' => e = .returned (.int .i64 (bestTo l l.length)) ∧ w = w' := by
  have hmax := hr.len
  obtain ⟨a, cap, hv⟩ := hr.shape
  rw [floVals_length] at hmax hv
  subst hv
  unfold maxLen at hmax
  have HR := Lib.hid hr
  have HL := Lib.hid hl
  clear hr hl
  go_enter Try.func23, Try.ntmps23
  go_wp2
  go_loop [3, 8] (fun o i => ∃ k : Nat, k ≤ l.length ∧ i = .int .i64 k ∧ o = .int .i64 (bestTo l k)) (fun _ i => l.length - (intOf i).toNat)
  case atStart => exact ⟨0, by omega, rfl, rfl⟩
  case round =>
    obtain ⟨k, hk, rfl, rfl⟩ := hrel
    by_cases hlt : k < l.length
    · rcases HR.out with ⟨_, _, _, h0⟩ | ⟨b, off, cap', hv, hq1, hq2, hbw, hcell⟩
      · rw [← floVals_length, h0] at hlt; exact absurd hlt (by simp)
      simp only [Value.slice.injEq] at hv
      obtain ⟨rfl, hq3, rfl⟩ := hv
      rw [floVals_length] at hcell
      have hc := hcell k hlt
      rw [floVals_at l k hlt] at hc
      have hxl := getD_lt l k HL.out
      have hbd := bestTo_bd l k
      by_cases hneg : bestTo l k < 0
      · have HS := Lib.hid (bestTo_yes l k (.inl hneg))
        have hd : decide (bestTo l k < 0) = true := by simpa using hneg
        clear hq1 hq2 hq3 hcell
        generalize bestTo l k = t at *
        go_wp2_with fail
        go_round
        case rel => exact ⟨k + 1, by omega, by go_num, by rw [HS.out]⟩
        case measure => simp [intOf]; omega
      · obtain ⟨j, hj⟩ : ∃ j : Nat, bestTo l k = j := ⟨(bestTo l k).toNat, by omega⟩
        have hcj := hcell j (by omega)
        rw [floVals_at l j (by omega)] at hcj
        have hyl := getD_lt l j HL.out
        have hcb := cmpN_bd (l.getD k 0) (l.getD j 0)
        have hyes := bestTo_yes l k
        have hno := bestTo_no l k
        rw [hj] at hyes hno hbd ⊢
        rw [show ((j : Int)).toNat = j from by omega] at hyes hno
        clear hq1 hq2 hq3 hcell hj
        by_cases hpos : 0 < cmpN (l.getD k 0) (l.getD j 0)
        · have HS := Lib.hid (hyes (.inr hpos))
          generalize hcm : cmpN (l.getD k 0) (l.getD j 0) = c at *
          have HC := Lib.hid hcm
          clear hyes hno hcm
          generalize l.getD k 0 = x at *
          generalize l.getD j 0 = y at *
          go_wp2_with fail
          refine (compare_is x y c _ hxl hyl HC).mono ?_
          rintro e w' ⟨rfl, rfl⟩
          go_wp2_with fail
          go_round
          case rel => exact ⟨k + 1, by omega, by go_num, by rw [HS.out]⟩
          case measure => simp [intOf]; omega
        · have HS := Lib.hid (hno (by omega))
          generalize hcm : cmpN (l.getD k 0) (l.getD j 0) = c at *
          have HC := Lib.hid hcm
          clear hyes hno hcm
          generalize l.getD k 0 = x at *
          generalize l.getD j 0 = y at *
          go_wp2_with fail
          refine (compare_is x y c _ hxl hyl HC).mono ?_
          rintro e w' ⟨rfl, rfl⟩
          go_wp2_with fail
          go_round
          case rel => exact ⟨k + 1, by omega, by go_num, by rw [HS.out]⟩
          case measure => simp [intOf]; omega
    · obtain rfl : k = l.length := by omega
      go_wp2
      go_ret
      exact ⟨rfl, rfl⟩
def sOne : ByteArray := ⟨#[51, 102, 102, 48, 48, 48, 48, 48, 48, 48, 48, 48, 48, 48, 48, 48]⟩
theorem t_one : hexNum sOne = 4607182418800017408 ∧ hexOk sOne = true ∧ hexOf (canon 4607182418800017408) = sOne.data.toList := by decide +kernel
theorem t_cmp : cmpN 9223372036854775808 0 = -1 := by decide +kernel
theorem t_k1 : kindN 9223372036854775808 = 3 := by decide +kernel
theorem t_k2 : kindN 9223372036854775807 = 0 := by decide +kernel
theorem t_best : bestTo [9223372036854775807, 18442240474082181120] 2 = 1 := by decide +kernel
set_option maxHeartbeats 800000 in
theorem told_any (w : World) :
    Calls Try.prog 14 #[] w fun e w' => e = .returned (.bool true) ∧ Below w.heap.size w w' := by
  go_enter Try.func14, Try.ntmps14
  go_wp2_with fail
  refine (sparse_any sOne _).mono ?_
  rintro e w1 ⟨rfl, rfl⟩
  rw [t_one.1, t_one.2.1]
  go_wp2_with fail
  refine (stext_any 4607182418800017408 _ (by decide)).mono ?_
  rintro e w1 ⟨rfl, hb1⟩
  rw [t_one.2.2]
  have e1 : ((ByteArray.mk sOne.data).toList == [51, 102, 102, 48, 48, 48, 48, 48, 48, 48, 48, 48, 48, 48, 48, 48]) = true := by rw [Go.ByteArray.toList_eq]; rfl
  go_wp2_with fail
  refine (of_any 9223372036854775808 _ (by decide)).mono ?_
  rintro e w2 ⟨rfl, hb2⟩
  go_wp2_with fail
  refine (of_any 0 _ (by decide)).mono ?_
  rintro e w3 ⟨rfl, hb3⟩
  go_wp2_with fail
  refine (compare_is 9223372036854775808 0 _ _ (by decide) (by decide) (Lib.hid t_cmp)).mono ?_
  rintro e w4 ⟨rfl, rfl⟩
  go_wp2_with fail
  refine (of_any 9223372036854775808 _ (by decide)).mono ?_
  rintro e w4 ⟨rfl, hb4⟩
  go_wp2_with fail
  refine (kind_is 9223372036854775808 3 _ (by decide) (Lib.hid t_k1)).mono ?_
  rintro e w5 ⟨rfl, rfl⟩
  go_wp2_with fail
  refine (of_any 9223372036854775807 _ (by decide)).mono ?_
  rintro e w5 ⟨rfl, hb5⟩
  go_wp2_with fail
  refine (kind_is 9223372036854775807 0 _ (by decide) (Lib.hid t_k2)).mono ?_
  rintro e w6 ⟨rfl, rfl⟩
  go_wp2_with fail
  refine (of_any 9223372036854775807 _ (by decide)).mono ?_
  rintro e w6 ⟨rfl, hb6⟩
  go_wp2_with fail
  refine (of_any 18442240474082181120 _ (by decide)).mono ?_
  rintro e w7 ⟨rfl, hb7⟩
  go_wp2_with fail
  refine (best_any _ [9223372036854775807, 18442240474082181120] _ (valRow_lit w7 _ _ 2 rfl (by decide) (by decide)) (by decide)).mono ?_
  rintro e w8 ⟨rfl, rfl⟩
  have hbest : bestTo [9223372036854775807, 18442240474082181120] ([9223372036854775807, 18442240474082181120] : List Nat).length = 1 := t_best
  rw [hbest]
  go_wp2_with fail
  go_ret
  exact ⟨rfl, (bthen (bthen (bthen (bthen (bthen (bthen hb1 hb2) hb3) hb4) hb5) hb6) hb7).alloc (bthen (bthen (bthen (bthen (bthen (bthen hb1 hb2) hb3) hb4) hb5) hb6) hb7).size _⟩
end Go.Proofs.Ytflcbbohnkgokaa
