/- The law's read. -/
import Derived.Test.YtfhicmjfifpjkaaLinH
namespace Go.Proofs.Ytfhicmjfifpjkaa
open Go.RowKit
set_option linter.unusedVariables false
theorem ex_scan : scan [97, 32, 98, 32] 0 [] [] = .ok [[97], [98]] [1, 3] := by
  have u0 : upTo blankC [97, 32, 98, 32] 0 = 1 := by decide
  have u2 : upTo blankC [97, 32, 98, 32] 2 = 3 := by decide
  have v0 : upTo badC (List.take 1 [97, 32, 98, 32]) 0 = 1 := by decide
  have v2 : upTo badC (List.take 3 [97, 32, 98, 32]) 2 = 3 := by decide
  rw [scan_word _ _ _ _ (by decide) (by decide) (by rw [u0]; decide) (by rw [u0, v0]; decide), u0]
  rw [scan_blank _ _ _ _ (by decide) (by decide)]
  rw [scan_word _ _ _ _ (by decide) (by decide) (by rw [u2]; decide) (by rw [u2, v2]; decide), u2]
  rw [scan_blank _ _ _ _ (by decide) (by decide)]
  rw [scan_end _ _ _ _ (by decide)]
  rfl
theorem ex_split : splitL [97, 32, 98, 32, 35, 32, 99] = .ok [[97], [98]] [1, 3] := by
  have : bare [97, 32, 98, 32, 35, 32, 99] = [97, 32, 98, 32] := by decide
  unfold splitL
  rw [this, ex_scan]
theorem ex_read : readTop [97, 32, 98, 32, 35, 32, 99] = .ok [⟨1, [[97], [98]], [1, 3]⟩] := by
  have h1 : List.take (upTo at10 [97, 32, 98, 32, 35, 32, 99] 0) ([97, 32, 98, 32, 35, 32, 99] : List UInt8) = [97, 32, 98, 32, 35, 32, 99] := by decide
  have h2 : List.drop (upTo at10 [97, 32, 98, 32, 35, 32, 99] 0 + 1) ([97, 32, 98, 32, 35, 32, 99] : List UInt8) = [] := by decide
  unfold readTop
  rw [if_neg (by decide), readL_ok 800 _ 1 [] (by decide) (by decide) (ws := [[97], [98]]) (cs := [1, 3]) (by rw [h1]; exact ex_split), h2, if_neg (by decide), readL_nil]
  rfl
theorem ex_bad : readTop [0] = .bad 1 1 1 := by
  have hs : splitL [0] = .bad 1 1 := by
    have hb : bare [0] = [0] := by decide
    have u0 : upTo blankC [0] 0 = 1 := by decide
    have v0 : upTo badC (List.take 1 [0]) 0 = 0 := by decide
    unfold splitL
    rw [hb, scan_bad _ _ _ _ (by decide) (by decide) (by rw [u0]; decide) (by rw [u0, v0]; decide), u0, v0]
  have h1 : List.take (upTo at10 [0] 0) ([0] : List UInt8) = [0] := by decide
  unfold readTop
  rw [if_neg (by decide), readL_bad 800 _ 1 [] (by decide) (by decide) (c := 1) (col := 1) (by rw [h1]; exact hs)]
set_option maxRecDepth 1000000 in
set_option maxHeartbeats 3200000 in
theorem lread_any (w : World) : Calls Try.prog 9 #[] w fun e w' => e = .returned (.bool true) ∧ Below w.heap.size w w' := by
  have HX := Lib.hid ex_read
  have HB := Lib.hid ex_bad
  go_enter Try.func9, Try.ntmps9
  go_wp2_with fail
  refine (top_read [97, 32, 98, 32, 35, 32, 99] _ _ HX (by simp)).mono ?_
  rintro e w1 ⟨v, rfl, hrow, hb1⟩
  obtain ⟨va, vc, rfl⟩ := hrow.here.shape
  have HROW := Lib.hid hrow.here
  clear hrow
  go_wp2_with fail
  refine (top_read [0] _ _ HB (by simp)).mono ?_
  rintro e w2 ⟨rfl, hb2⟩
  have hb2' : Below w1.heap.size w1 w2 := ((Below.refl _ _).alloc (Nat.le_refl _) _).trans (hb2.mono (by simp))
  have hrow2 := HROW.out.below lineC_lasts hb2'
  obtain ⟨b1, o1, rfl, hbw, cs1, ⟨hl1, hc1⟩, v1, u1, rfl, hv1, hu1⟩ := hrow2.at_ 0 (by simp)
  have d0 : w2.cell? ⟨b1, o1, none⟩ = some (.int .i64 1) := hc1 0 (by omega)
  have d1 : w2.cell? ⟨b1, o1 + 1, none⟩ = some v1 := hc1 1 (by omega)
  have d2 : w2.cell? ⟨b1, o1 + 2, none⟩ = some u1 := hc1 2 (by omega)
  have vf := (varAt_new w1 #[.int .i64 0, .int .i64 0, .int .i64 0] 30 _ rfl).after hb2
  have g0 := vf.get 0 rfl
  have g1 := vf.get 1 rfl
  have g2 := vf.get 2 rfl
  have hl := vf.lt
  have HV := Lib.hid hv1
  have HU := Lib.hid hu1
  have HBE : Hid (Below w.heap.size w w2) := Lib.hid (hb1.trans (hb2'.mono hb1.size))
  clear hl1 hc1 hv1 hu1 hrow2 hb2' HROW vf
  go_wp2_with fail
  have HA2 : Hid (Below w2.heap.size w2 ((w2.alloc (.cells #[.int .i64 1, .int .i64 1, .int .i64 1] 30)).alloc (.cells #[.string ⟨#[97]⟩, .string ⟨#[98]⟩] 9))) := Lib.hid (((Below.refl _ _).alloc (Nat.le_refl _) _).alloc (by simp) _)
  have HL2 : Hid (ValRow ((w2.alloc (.cells #[.int .i64 1, .int .i64 1, .int .i64 1] 30)).alloc (.cells #[.string ⟨#[97]⟩, .string ⟨#[98]⟩] 9)) (.slice (some ⟨w2.heap.size + 1, 0, none⟩) 2 2) (strVals [[97], [98]])) := by
    have := valRow_lit (w2.alloc (.cells #[.int .i64 1, .int .i64 1, .int .i64 1] 30)) #[.string ⟨#[97]⟩, .string ⟨#[98]⟩] 9 2 rfl (by decide) (by unfold maxLen; decide)
    rw [show (w2.alloc (.cells #[.int .i64 1, .int .i64 1, .int .i64 1] 30)).heap.size = w2.heap.size + 1 from by simp] at this
    exact Lib.hid this
  refine (texts_same v1 _ [[97], [98]] _ (HV.out.below HA2.out) HL2.out).mono ?_
  rintro e w3 ⟨rfl, m3, hw3⟩
  have hb4 : Below w2.heap.size w2 w3 := by rw [hw3]; exact below_drewN HA2.out m3
  have vg : VarAt w3 w2.heap.size [.int .i64 1, .int .i64 1, .int .i64 1] := by
    rw [hw3]; exact ((varAt_new w2 #[.int .i64 1, .int .i64 1, .int .i64 1] 30 _ rfl).alloc _).drewN m3
  have d3 : w3.cell? ⟨b1, o1 + 2, none⟩ = some u1 := by rw [hb4.cell (p := ⟨b1, o1 + 2, none⟩) hbw]; exact d2
  have j0 := vg.get 0 rfl
  have j1 := vg.get 1 rfl
  have j2 := vg.get 2 rfl
  have jl := vg.lt
  have HB4 := Lib.hid hb4
  clear hw3 vg hb4 d0 d1 d2 g0 g1 g2 HA2 HL2
  go_wp2_with fail
  have HL3 : Hid (ValRow (w3.alloc (.cells #[.int .i64 1, .int .i64 3] 3)) (.slice (some ⟨w3.heap.size, 0, none⟩) 2 2) (intVals [1, 3])) :=
    Lib.hid (valRow_lit w3 #[.int .i64 1, .int .i64 3] 3 2 rfl (by decide) (by unfold maxLen; decide))
  have HU3 : Hid (ValRow (w3.alloc (.cells #[.int .i64 1, .int .i64 3] 3)) u1 (intVals [1, 3])) :=
    Lib.hid ((HU.out.below HB4.out).below ((Below.refl _ _).alloc (Nat.le_refl _) _))
  refine (ints_same u1 _ [1, 3] _ HU3.out HL3.out).mono ?_
  rintro e w5 ⟨rfl, m5, rfl⟩
  go_wp2_with fail
  go_ret
  exact ⟨rfl, below_drewN (((HBE.out).trans (HB4.out.mono HBE.out.size)).alloc (by have := HBE.out.size; have := HB4.out.size; omega) _) m5⟩
end Go.Proofs.Ytfhicmjfifpjkaa
