/- The walk of ScoreBests: for every slice of 64-bit words that lies within the form's reach it returns true and changes nothing that was there. -/
import Derived.Test.YtflcbbohnkgokaaScoreSumsW
import Derived.Test.YtflcbbohnkgokaaScoreOrdersW
import Derived.Deep.QuietTactic
import Derived.BigQuiet
namespace Go.Proofs.Ytflcbbohnkgokaa
open Go.RowKit
set_option linter.unusedVariables false
set_option maxHeartbeats 1600000 in
theorem scoreBests_big (a : Option Addr) (cap : Nat) (l : List Nat) (w : World) (hr : IntRow .u64 w (.slice a l.length cap) (natsOf l)) (hl : ∀ x ∈ l, x < 18446744073709551616) (hmax : l.length * 8 ≤ 140737488355328) :
    Calls Try.prog 6 #[.slice a l.length cap] w fun e w' => e = .returned (.bool true) ∧ Below w.heap.size w w' := by
  have HR := Lib.hid hr
  have HL := Lib.hid hl
  clear hr hl
  go_enter Try.func6, Try.ntmps6
  go_wp2_with fail
  go_loopw [3, 4] (fun o i wr => ∃ (k m : Nat), k ≤ l.length ∧ i = .int .i64 k ∧ o = .int .i64 (bestTo l k) ∧ wr = w.drewN m) (fun _ i _ => l.length - (intOf i).toNat)
  case atStart => exact ⟨0, 0, by omega, rfl, rfl, rfl⟩
  case round =>
    obtain ⟨k, m, hk, rfl, rfl, hwr⟩ := hrel
    have HW := Lib.hid hwr
    clear hwr
    by_cases hlt : k < l.length
    · obtain ⟨b, off, rfl, hbw, hcell⟩ := intRow_cells HR.out k (by rw [natsOf_length]; exact hlt)
      rw [natsOf_length] at hcell
      have hcell : ∀ i, i < l.length → wr.cell? ⟨b, off + i, none⟩ = some (.int .u64 ((natsOf l).getD i 0)) := fun i hi => by rw [HW.out]; exact hcell i hi
      have hc := hcell k hlt
      rw [natsOf_getD] at hc
      have hxl := getD_lt l k HL.out
      have hbd := bestTo_bd l k
      have hk0 : (0 : Int) ≤ (k : Int) := by omega
      have hk1 : (k : Int) < (l.length : Int) := by omega
      by_cases hneg : bestTo l k < 0
      · have HS := Lib.hid (bestTo_yes l k (.inl hneg))
        have hd : decide (bestTo l k < 0) = true := by simpa using hneg
        clear hcell
        generalize bestTo l k = t at *
        go_wp2_with fail
        go_quiet (fail)
        go_wp2_with fail
        go_roundw
        case rel => exact ⟨k + 1, _, by omega, by go_num, by rw [HS.out], by rw [HW.out, World.drewN_drewN]⟩
        case measure => simp [intOf]; omega
      · obtain ⟨j, hj⟩ : ∃ j : Nat, bestTo l k = j := ⟨(bestTo l k).toNat, by omega⟩
        have hcj := hcell j (by omega)
        rw [natsOf_getD] at hcj
        have hyl := getD_lt l j HL.out
        have hcb := cmpN_bd (l.getD k 0) (l.getD j 0)
        have hyes := bestTo_yes l k
        have hno := bestTo_no l k
        rw [hj] at hyes hno hbd ⊢
        rw [show ((j : Int)).toNat = j from by omega] at hyes hno
        clear hcell hj
        have hj0 : (0 : Int) ≤ (j : Int) := by omega
        have hj1 : (j : Int) < (l.length : Int) := by omega
        have hd : decide ((j : Int) < 0) = false := by simp
        by_cases hpos : 0 < cmpN (l.getD k 0) (l.getD j 0)
        · have HS := Lib.hid (hyes (.inr hpos))
          generalize hcm : cmpN (l.getD k 0) (l.getD j 0) = c at *
          have HC := Lib.hid hcm
          have hdc : decide (0 < c) = true := by simpa using hpos
          clear hyes hno hcm
          generalize l.getD k 0 = x at *
          generalize l.getD j 0 = y at *
          go_wp2_with fail
          go_quiet ((go_at_call 22; exact Calls.quiet_of_same ((rcompare_is x y c _ hxl hyl HC).mono fun e w' h => ⟨h.1, h.2.symm⟩)))
          go_wp2_with fail
          go_roundw
          case rel => exact ⟨k + 1, _, by omega, by go_num, by rw [HS.out], by rw [HW.out, World.drewN_drewN]⟩
          case measure => simp [intOf]; omega
        · have HS := Lib.hid (hno (by omega))
          generalize hcm : cmpN (l.getD k 0) (l.getD j 0) = c at *
          have HC := Lib.hid hcm
          have hdc : decide (0 < c) = false := by simpa using hpos
          clear hyes hno hcm
          generalize l.getD k 0 = x at *
          generalize l.getD j 0 = y at *
          go_wp2_with fail
          go_quiet ((go_at_call 22; exact Calls.quiet_of_same ((rcompare_is x y c _ hxl hyl HC).mono fun e w' h => ⟨h.1, h.2.symm⟩)))
          go_wp2_with fail
          go_roundw
          case rel => exact ⟨k + 1, _, by omega, by go_num, by rw [HS.out], by rw [HW.out, World.drewN_drewN]⟩
          case measure => simp [intOf]; omega
    · obtain rfl : k = l.length := by omega
      have hb0 : Below w.heap.size w wr := by rw [HW.out]; exact below_drewN (Below.refl _ _) m
      go_wp2_with fail
      refine (told_any _).mono ?_
      rintro e w1 ⟨rfl, hb1⟩
      go_wp2_with fail
      refine (all_any a cap l _ (HR.out.below (bthen hb0 hb1)) HL.out hmax).mono ?_
      rintro e w3 ⟨v, rfl, hrow3, hb3⟩
      go_wp2_with fail
      refine (best_any v l _ hrow3 HL.out).mono ?_
      rintro e w4 ⟨rfl, rfl⟩
      clear hrow3
      go_wp2_with fail
      go_ret
      exact ⟨rfl, bthen (bthen hb0 hb1) hb3⟩
theorem isRow_le {k : IntKind} {w : World} {a : Option Addr} {len cap : Nat} {z : List Int} (h : IsRow k w a len cap z) : len ≤ cap := by
  rcases h with ⟨_, rfl, rfl, _⟩ | ⟨_, _, h, _⟩
  · exact Nat.le_refl _
  · exact h
theorem scoreBests_walk (a0 : Option Addr) (len0 cap0 : Nat) (z0 : List Int) (w : World) (s0 : cap0 * 8 ≤ 140737488351232) (w0 : IsRow .u64 w a0 len0 cap0 z0) :
    Calls Try.prog 6 #[.slice a0 len0 cap0] w fun e w' => e = .returned (.bool true) ∧ Below w.heap.size w w' := by
  have hle := isRow_le w0
  obtain ⟨l, rfl, hr, hl⟩ := nats_of_row w0
  exact scoreBests_big a0 cap0 l w hr hl (by omega)
end Go.Proofs.Ytflcbbohnkgokaa
