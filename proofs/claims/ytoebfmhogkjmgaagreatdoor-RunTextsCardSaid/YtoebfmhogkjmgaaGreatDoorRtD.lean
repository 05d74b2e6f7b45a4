/- A run's outcome, as a text: of an input that isn't of its form. -/
import Derived.Test.YtoebfmhogkjmgaaGreatDoorRtC
namespace Go.Proofs.YtoebfmhogkjmgaaGreatDoor
open Go.RowKit
set_option linter.unusedVariables false
theorem text_one (inp code ln col st : Int) (hst : I64 st) (hi : I64 inp) (hc : I64 code) (hn : I64 ln) (hl : I64 col) (lk wy au : ByteArray) (k1 : lk.size ≤ 140737488355328) (k2 : wy.size ≤ 140737488355328) (k3 : au.size ≤ 140737488355328) (w : World) (ht : Lib.TabIs Tryz.prog w "internal/strconv.uint64pow10" .u64 Lib.pow10Tab) :
    Calls Tryz.prog 6 #[.agg (outC 1 inp code ln col st lk wy au)] w fun e w' => e = .returned (.string (textT 1 inp code ln col st lk wy au)) ∧ Below w.heap.size w w' := by
  have HT := Lib.hid ht
  clear ht
  unfold outC
  go_enter Tryz.func6, Tryz.ntmps6
  go_wp2_with fail
  have v0 := varAt_new w #[.int .i64 1, .int .i64 inp, .int .i64 code, .int .i64 ln, .int .i64 col, .int .i64 st, .string lk, .string wy, .string au] 26 _ rfl
  have b0 : Below w.heap.size w (w.alloc (.cells #[.int .i64 1, .int .i64 inp, .int .i64 code, .int .i64 ln, .int .i64 col, .int .i64 st, .string lk, .string wy, .string au] 26)) := (Below.refl _ _).alloc (Nat.le_refl _) _
  refine (itoa_any st hst.1 hst.2 _ (tab_below HT.out b0)).mono ?_
  rintro e w1 ⟨rfl, hb1⟩
  have v1 := v0.after hb1
  have b1 := b0.trans (hb1.mono b0.size)
  have c0 : ∀ o, (w1.alloc o).cell? ⟨w.heap.size, 0, none⟩ = some (.int .i64 1) := fun o => (v1.alloc o).get 0 rfl
  have hil := itoa_len st hst.1 hst.2
  obtain ⟨I, hI⟩ : ∃ I, Lib.itoa st = I := ⟨_, rfl⟩
  rw [hI] at hil ⊢
  have hii := itoa_len inp hi.1 hi.2
  have hic := itoa_len code hc.1 hc.2
  have hin := itoa_len ln hn.1 hn.2
  have hio := itoa_len col hl.1 hl.2
  clear hI hil
  go_wp2_with fail
  have v2 := v1.alloc (.cells #[.string ⟨#[108, 105, 109, 105, 116]⟩, .string ⟨I.toArray⟩] 9)
  have b2 : Below w.heap.size w (w1.alloc (.cells #[.string ⟨#[108, 105, 109, 105, 116]⟩, .string ⟨I.toArray⟩] 9)) := b1.alloc b1.size _
  obtain ⟨W, hW⟩ : ∃ W, w1.alloc (.cells #[.string ⟨#[108, 105, 109, 105, 116]⟩, .string ⟨I.toArray⟩] 9) = W := ⟨_, rfl⟩
  rw [hW] at v2 b2 ⊢
  have HTW : Hid (∀ w', Below W.heap.size W w' → Lib.TabIs Tryz.prog w' "internal/strconv.uint64pow10" .u64 Lib.pow10Tab) := Lib.hid (fun w' h => tab_below (tab_below HT.out b2) h)
  obtain ⟨B1, hB1⟩ : ∃ B, w1.heap.size = B := ⟨_, rfl⟩
  rw [hB1] 
  obtain ⟨B0, hB0⟩ : ∃ B, w.heap.size = B := ⟨_, rfl⟩
  rw [hB0] at v2 ⊢
  clear hW hB1 hb1 v0 v1 b0 b1 c0 HT
  have SK : Hid (∀ w', Below W.heap.size W w' → w'.cell? ⟨B0, 1, none⟩ = some (.int .i64 inp) ∧ w'.cell? ⟨B0, 2, none⟩ = some (.int .i64 code) ∧ w'.cell? ⟨B0, 3, none⟩ = some (.int .i64 ln) ∧ w'.cell? ⟨B0, 4, none⟩ = some (.int .i64 col)) := Lib.hid (fun w' h => ⟨(v2.after h).get 1 rfl, (v2.after h).get 2 rfl, (v2.after h).get 3 rfl, (v2.after h).get 4 rfl⟩)
  have HV := Lib.hid v2
  have HBE := Lib.hid b2
  clear v2 b2
  obtain ⟨hi0, hi1⟩ := hi
  obtain ⟨hc0, hc1⟩ := hc
  obtain ⟨hn0, hn1⟩ := hn
  obtain ⟨hl0, hl1⟩ := hl
  obtain ⟨I1, hI1⟩ : ∃ I, Lib.itoa inp = I := ⟨_, rfl⟩
  obtain ⟨I2, hI2⟩ : ∃ I, Lib.itoa code = I := ⟨_, rfl⟩
  obtain ⟨I3, hI3⟩ : ∃ I, Lib.itoa ln = I := ⟨_, rfl⟩
  obtain ⟨I4, hI4⟩ : ∃ I, Lib.itoa col = I := ⟨_, rfl⟩
  have HB0 : Below W.heap.size W W.drew := Below.drew (Below.refl _ _)
  go_region_held3 (fun w' => w'.cell? ⟨B0, 1, none⟩ = some (.int .i64 inp) ∧ w'.cell? ⟨B0, 2, none⟩ = some (.int .i64 code) ∧ w'.cell? ⟨B0, 3, none⟩ = some (.int .i64 ln) ∧ w'.cell? ⟨B0, 4, none⟩ = some (.int .i64 col)) (first | exact SK.out _ (HBD.alloc HBD.size _) | exact SK.out _ HBD | exact SK.out _ HBC | exact SK.out _ HBB | exact SK.out _ HBA | exact SK.out _ HB0 | fail "no S") (first
    | (go_at_call 11; (with_reducible refine (itoa_any inp hi0 hi1 _ (HTW.out _ HB0)).mono ?_); rintro e wA ⟨rfl, hbA⟩; have HBA : Below W.heap.size W wA := HB0.trans hbA)
    | (go_at_call 11; (with_reducible refine (itoa_any code hc0 hc1 _ (HTW.out _ HBA)).mono ?_); rintro e wB ⟨rfl, hbB⟩; have HBB : Below W.heap.size W wB := HBA.trans (hbB.mono HBA.size))
    | (go_at_call 11; (with_reducible refine (itoa_any ln hn0 hn1 _ (HTW.out _ HBB)).mono ?_); rintro e wC ⟨rfl, hbC⟩; have HBC : Below W.heap.size W wC := HBB.trans (hbC.mono HBB.size))
    | (go_at_call 11; (with_reducible refine (itoa_any col hl0 hl1 _ (HTW.out _ HBC)).mono ?_); rintro e wD ⟨rfl, hbD⟩; have HBD : Below W.heap.size W wD := HBC.trans (hbD.mono HBC.size)) | (fail "no arm"))
  have hb3 : Below W.heap.size W (wD.alloc (.cells #[.string ⟨#[109, 97, 108, 102, 111, 114, 109, 101, 100]⟩, .string ⟨I1.toArray⟩, .string ⟨I2.toArray⟩, .string ⟨I3.toArray⟩, .string ⟨I4.toArray⟩] 9)) := HBD.alloc HBD.size _
  have v2 := (HV.out.after hb3)
  have v3 := varAt_new wD #[.string ⟨#[109, 97, 108, 102, 111, 114, 109, 101, 100]⟩, .string ⟨I1.toArray⟩, .string ⟨I2.toArray⟩, .string ⟨I3.toArray⟩, .string ⟨I4.toArray⟩] 9 _ rfl
  have b2 := HBE.out.trans (hb3.mono HBE.out.size)
  have HI1 := Lib.hid hI1
  have HI2 := Lib.hid hI2
  have HI3 := Lib.hid hI3
  have HI4 := Lib.hid hI4
  rw [hI1] at hii
  rw [hI2] at hic
  rw [hI3] at hin
  rw [hI4] at hio
  obtain ⟨X, hX⟩ : ∃ X, wD.alloc (.cells #[.string ⟨#[109, 97, 108, 102, 111, 114, 109, 101, 100]⟩, .string ⟨I1.toArray⟩, .string ⟨I2.toArray⟩, .string ⟨I3.toArray⟩, .string ⟨I4.toArray⟩] 9) = X := ⟨_, rfl⟩
  rw [hX] at v2 v3 b2 ⊢
  obtain ⟨B2, hB2⟩ : ∃ B, wD.heap.size = B := ⟨_, rfl⟩
  rw [hB2] at v3 ⊢
  clear hX hB2 hb3 HBA HBB HBC HBD hbA hbB hbC hbD HB0 SK HV HBE HTW hI1 hI2 hI3 hI4
  have SX : Hid (∀ w', Below X.heap.size X w' → w'.cell? ⟨B0, 6, none⟩ = some (.string lk) ∧ w'.cell? ⟨B0, 7, none⟩ = some (.string wy) ∧ w'.cell? ⟨B0, 8, none⟩ = some (.string au)) := Lib.hid (fun w' h => ⟨(v2.after h).get 6 rfl, (v2.after h).get 7 rfl, (v2.after h).get 8 rfl⟩)
  have HR : Hid (∀ w', Below X.heap.size X w' → RowOf 1 StrsC (w'.alloc (.cells #[.slice (some ⟨B2, 0, none⟩) 5 5] 32)) (.slice (some ⟨w'.heap.size, 0, none⟩) 1 1) [[[109, 97, 108, 102, 111, 114, 109, 101, 100], I1, I2, I3, I4]]) := Lib.hid (fun w' h =>
    line_new [[109, 97, 108, 102, 111, 114, 109, 101, 100], I1, I2, I3, I4] (by simp) v3 h _ (by simp) (fun l hl => by
      simp only [List.mem_cons, List.not_mem_nil, or_false] at hl
      rcases hl with rfl | rfl | rfl | rfl | rfl
      · simp
      · omega
      · omega
      · omega
      · omega))
  have HBE := Lib.hid b2
  clear v2 v3 b2
  obtain ⟨s, hs⟩ : ∃ s, lineW [[109, 97, 108, 102, 111, 114, 109, 101, 100], I1, I2, I3, I4] ++ [10] = s := ⟨_, rfl⟩
  have hsl : s.length ≤ 200 := by rw [← hs]; simp [lineW]; omega
  have HS := Lib.hid hs
  clear hs
  have HB0 : Below X.heap.size X X.drew := Below.drew (Below.refl _ _)
  have g1 : ¬ 9223372036854775807 < s.length + lk.size := by omega
  have g2 : ¬ 9223372036854775807 < s.length + lk.size + wy.size := by omega
  have g3 : ¬ 9223372036854775807 < s.length + lk.size + wy.size + au.size := by omega
  go_wp2_with fail
  go_region_held3 (fun w' => w'.cell? ⟨B0, 6, none⟩ = some (.string lk) ∧ w'.cell? ⟨B0, 7, none⟩ = some (.string wy) ∧ w'.cell? ⟨B0, 8, none⟩ = some (.string au)) (first | exact SX.out _ HBA | exact SX.out _ (Below.drew ((Below.refl _ _).alloc (Nat.le_refl _) _)) | exact SX.out _ HB0) ((go_at_call 12; refine (lwrite1 _ _ _ ((HR.out _ (Below.refl _ _)).below strsC_lasts (Below.drew (Below.refl _ _))) s HS.out (by omega) (by simp)).mono ?_; rintro e wA ⟨rfl, hbA⟩; have HBA : Below X.heap.size X wA := (Below.drew ((Below.refl _ _).alloc (Nat.le_refl _) _)).trans (hbA.mono (by simp))))
  all_goals
    go_wp2_with fail
    go_ret
    refine ⟨?_, HBE.out.trans (HBA.mono HBE.out.size)⟩
    unfold textT wordsT
    rw [if_pos rfl, HI1.out, HI2.out, HI3.out, HI4.out, HS.out]
    rfl
end Go.Proofs.YtoebfmhogkjmgaaGreatDoor
