/- popped, and the laws OrderNils and OrderTurns. -/
import Derived.Test.YtfhbndfdlnbfpaaOrdS
namespace Go.Proofs.Ytfhbndfdlnbfpaa
open Go.RowKit
set_option linter.unusedVariables false
theorem Kept.belowL {L : List Nat} {B : Nat} {w w0 w' : World} (h : Below B w w0) (hk : Kept L w0 w') (hB : B ≤ w.heap.size) (hL : ∀ x ∈ L, B ≤ x) : Below B w w' :=
  h.trans (hk.below (Nat.le_trans hB h.size) hL)
theorem Below.drewN {B : Nat} {a b : World} (h : Below B a b) (q : Nat) : Below B a (b.drewN q) := ⟨h.os, h.tape, h.output, h.size, h.block⟩
theorem luby7 : LubyIs 7 4 := LubyIs.top 2
theorem sc35 : bumpSc (List.replicate (4 + 1) 0) 3 5 = [0, 0, 0, 5, 0] := by decide
set_option maxRecDepth 1000000 in
set_option maxHeartbeats 3200000 in
theorem popped_any (w : World) : Calls Try.prog 11 #[] w fun e w' => e = .returned (.bool true) ∧ Below w.heap.size w w' := by
  go_enter Try.func11, Try.ntmps11
  go_wp2_with fail
  refine (new_heap 4 w (by omega)).mono ?_
  rintro e w1 ⟨L, H, rfl, hh1, hL, hb1⟩
  have HH1 := Lib.hid hh1
  have HL := Lib.hid hL
  clear hh1 hL
  go_wp2_with fail
  refine (hbump w1 L H _ _ HH1.out 3 (by omega) (by simp) 5 (by omega) (by omega)).mono ?_
  rintro e w2 ⟨rfl, hh2, hk2⟩
  have hd : decide (1099511627776 < (List.replicate (4 + 1) (0 : Int)).getD 3 0 + 5) = false := by decide
  rw [hd]
  rw [sc35] at hh2
  have hb2 := Kept.belowL hb1 hk2 (Nat.le_refl _) HL.out
  have HH2 := Lib.hid hh2
  clear hh2 hk2 hd HH1
  go_wp2_with fail
  refine (hpop w2 L H _ _ HH2.out (by decide)).mono ?_
  rintro e w3 ⟨t, rfl, ht, hh3, hk3⟩
  obtain rfl : t = 3 := isTop_unique ht ⟨by decide, by simp [upto, ahd, List.range, List.range.loop]⟩
  have hb3 := Kept.belowL hb2 hk3 (Nat.le_refl _) HL.out
  have HH3 := Lib.hid hh3
  clear hh3 hk3 ht HH2
  go_wp2_with fail
  refine (hpop w3 L H _ _ HH3.out (by decide)).mono ?_
  rintro e w4 ⟨t, rfl, ht, hh4, hk4⟩
  obtain rfl : t = 1 := isTop_unique ht ⟨by decide, by simp [upto, ahd, List.range, List.range.loop, List.erase]⟩
  have hb4 := Kept.belowL hb3 hk4 (Nat.le_refl _) HL.out
  have HH4 := Lib.hid hh4
  clear hh4 hk4 ht HH3
  go_wp2_with fail
  refine (hlen w4 L H _ _ HH4.out).mono ?_
  rintro e w5 ⟨rfl, rfl⟩
  have hd : ((((upto 4).erase 3).erase 1).length : Int) = 2 := by decide
  rw [hd]
  clear hd
  go_wp2_with fail
  refine (hhas w5 L H _ _ HH4.out 3 false (Lib.hid (by decide))).mono ?_
  rintro e w6 ⟨rfl, m6, rfl⟩
  go_wp2_with fail
  refine (hhas _ L H _ _ (HH4.out.drewN m6) 4 true (Lib.hid (by decide))).mono ?_
  rintro e w7 ⟨rfl, m7, rfl⟩
  go_wp2_with fail
  refine (hscore _ L H _ _ (HH4.out.drewN _) 3 5 (Lib.hid (by decide))).mono ?_
  rintro e w8 ⟨rfl, rfl⟩
  go_wp2_with fail
  refine (luby_any 7 _ (by omega) (by omega) 4 luby7).mono ?_
  rintro e w9 ⟨rfl, rfl⟩
  go_wp2_with fail
  go_ret
  exact ⟨rfl, Below.drewN hb4 _⟩
theorem orderNils_walk (a0 a1 : Int) (w0 : (Lit.int .i64 a0).wf = true) (w1 : (Lit.int .i64 a1).wf = true) (w : World) :
    Calls Try.prog 8 #[.int .i64 a0, .int .i64 a1] w fun e w' => e = .returned (.bool true) ∧ Below w.heap.size w w' := by
  clear w0 w1
  go_enter Try.func8, Try.ntmps8
  go_wp2_with fail
  refine (push_nil _ _).mono ?_
  rintro e w1 ⟨rfl, m, rfl⟩
  go_wp2_with fail
  refine (pop_nil _).mono ?_
  rintro e w2 ⟨rfl, rfl⟩
  go_wp2_with fail
  refine (popped_any _).mono ?_
  rintro e w3 ⟨rfl, hb⟩
  go_wp2_with fail
  refine (len_nil _).mono ?_
  rintro e w4 ⟨rfl, rfl⟩
  go_wp2_with fail
  refine (has_nil _ _).mono ?_
  rintro e w5 ⟨rfl, m5, rfl⟩
  go_wp2_with fail
  refine (score_nil _ _).mono ?_
  rintro e w6 ⟨rfl, rfl⟩
  go_wp2_with fail
  refine (bump_nil _ _ _).mono ?_
  rintro e w7 ⟨rfl, rfl⟩
  go_wp2_with fail
  go_ret
  exact ⟨rfl, Below.drewN (Below.trans (Below.drewN (Below.refl _ _) m) hb) _⟩
end Go.Proofs.Ytfhbndfdlnbfpaa
