/- The law of a run's text: of an input that isn't of its form; all of it. -/
import Derived.Test.YtoebfmhogkjmgaaGreatDoorRtE
namespace Go.Proofs.YtoebfmhogkjmgaaGreatDoor
open Go.RowKit
set_option linter.unusedVariables false
theorem law_one (inp code ln col st : Int) (hst : I64 st) (hi : I64 inp) (hc : I64 code) (hn : I64 ln) (hl : I64 col) (lk wy au : ByteArray) (k1 : lk.size ≤ 140737488355328) (k2 : wy.size ≤ 140737488355328) (k3 : au.size ≤ 140737488355328) (w : World) (ht : Lib.TabIs Tryz.prog w "internal/strconv.uint64pow10" .u64 Lib.pow10Tab) :
    Calls Tryz.prog 3 #[.agg #[.int .i64 1, .int .i64 inp, .int .i64 code, .int .i64 ln, .int .i64 col, .int .i64 st, .string lk, .string wy, .string au]] w fun e w' => e = .returned (.bool true) ∧ Below w.heap.size w w' := by
  have HT := Lib.hid ht
  clear ht
  go_enter Tryz.func3, Tryz.ntmps3
  go_wp2_with fail
  have v0 := varAt_new w #[.int .i64 1, .int .i64 inp, .int .i64 code, .int .i64 ln, .int .i64 col, .int .i64 st, .string lk, .string wy, .string au] 26 _ rfl
  have b0 : Below w.heap.size w (w.alloc (.cells #[.int .i64 1, .int .i64 inp, .int .i64 code, .int .i64 ln, .int .i64 col, .int .i64 st, .string lk, .string wy, .string au] 26)) := (Below.refl _ _).alloc (Nat.le_refl _) _
  refine (number_any st hst.1 hst.2 _).mono ?_
  rintro e w1 ⟨rfl, hb1⟩
  have v1 := v0.after hb1
  have b1 := b0.trans (hb1.mono b0.size)
  have c0 : w1.cell? ⟨w.heap.size, 0, none⟩ = some (.int .i64 1) := v1.get 0 rfl
  have hil := itoa_len st hst.1 hst.2
  obtain ⟨I, hI⟩ : ∃ I, Lib.itoa st = I := ⟨_, rfl⟩
  rw [hI] at hil ⊢
  have HI := Lib.hid hI
  clear hI
  go_wp2_with fail
  have hii := itoa_len inp hi.1 hi.2
  have hic := itoa_len code hc.1 hc.2
  have hin := itoa_len ln hn.1 hn.2
  have hio := itoa_len col hl.1 hl.2
  obtain ⟨I1, hI1⟩ : ∃ I, Lib.itoa inp = I := ⟨_, rfl⟩
  obtain ⟨I2, hI2⟩ : ∃ I, Lib.itoa code = I := ⟨_, rfl⟩
  obtain ⟨I3, hI3⟩ : ∃ I, Lib.itoa ln = I := ⟨_, rfl⟩
  obtain ⟨I4, hI4⟩ : ∃ I, Lib.itoa col = I := ⟨_, rfl⟩
  rw [hI1] at hii
  rw [hI2] at hic
  rw [hI3] at hin
  rw [hI4] at hio
  have HBE0 := Lib.hid b1
  obtain ⟨B0, hB0⟩ : ∃ B, w.heap.size = B := ⟨_, rfl⟩
  rw [hB0] at v1 ⊢
  have SR : Hid (∀ w', Below w1.heap.size w1 w' → w'.cell? ⟨B0, 1, none⟩ = some (.int .i64 inp) ∧ w'.cell? ⟨B0, 2, none⟩ = some (.int .i64 code) ∧ w'.cell? ⟨B0, 3, none⟩ = some (.int .i64 ln) ∧ w'.cell? ⟨B0, 4, none⟩ = some (.int .i64 col)) := Lib.hid (fun w' h => ⟨(v1.after h).get 1 rfl, (v1.after h).get 2 rfl, (v1.after h).get 3 rfl, (v1.after h).get 4 rfl⟩)
  have HV := Lib.hid v1
  clear b1 c0 v0 b0 hb1 v1
  have q0 : ¬ 9223372036854775807 < 10 + I1.length := by omega
  have q1 : ¬ 9223372036854775807 < 10 + I1.length + 1 := by omega
  have q2 : ¬ 9223372036854775807 < 10 + I1.length + 1 + I2.length := by omega
  have q3 : ¬ 9223372036854775807 < 10 + I1.length + 1 + I2.length + 1 := by omega
  have q4 : ¬ 9223372036854775807 < 10 + I1.length + 1 + I2.length + 1 + I3.length := by omega
  have q5 : ¬ 9223372036854775807 < 10 + I1.length + 1 + I2.length + 1 + I3.length + 1 := by omega
  have q6 : ¬ 9223372036854775807 < 10 + I1.length + 1 + I2.length + 1 + I3.length + 1 + I4.length := by omega
  have HR0 : Below w1.heap.size w1 w1.drew := Below.drew (Below.refl _ _)
  have hi0 := hi.1
  have hi1 := hi.2
  have hc0 := hc.1
  have hc1 := hc.2
  have hn0 := hn.1
  have hn1 := hn.2
  have hl0 := hl.1
  have hl1 := hl.2
  go_region_held3 (fun w' => w'.cell? ⟨B0, 1, none⟩ = some (.int .i64 inp) ∧ w'.cell? ⟨B0, 2, none⟩ = some (.int .i64 code) ∧ w'.cell? ⟨B0, 3, none⟩ = some (.int .i64 ln) ∧ w'.cell? ⟨B0, 4, none⟩ = some (.int .i64 col)) (first | exact SR.out _ HRD | exact SR.out _ HRC | exact SR.out _ HRB | exact SR.out _ HRA | exact SR.out _ HR0 | fail "no S") (first
    | (go_at_call 4; (with_reducible refine (number_any inp hi0 hi1 _).mono ?_); rintro e wA ⟨rfl, hbA⟩; have HRA : Below w1.heap.size w1 wA := HR0.trans hbA)
    | (go_at_call 4; (with_reducible refine (number_any code hc0 hc1 _).mono ?_); rintro e wB ⟨rfl, hbB⟩; have HRB : Below w1.heap.size w1 wB := HRA.trans (hbB.mono HRA.size))
    | (go_at_call 4; (with_reducible refine (number_any ln hn0 hn1 _).mono ?_); rintro e wC ⟨rfl, hbC⟩; have HRC : Below w1.heap.size w1 wC := HRB.trans (hbC.mono HRB.size))
    | (go_at_call 4; (with_reducible refine (number_any col hl0 hl1 _).mono ?_); rintro e wD ⟨rfl, hbD⟩; have HRD : Below w1.heap.size w1 wD := HRC.trans (hbD.mono HRC.size))
    | fail "no arm")
  have v2 := HV.out.after HRD
  have b2 : Below B0 w wD := hB0 ▸ (HBE0.out.trans (HRD.mono HBE0.out.size))
  have HI1 := Lib.hid hI1
  have HI2 := Lib.hid hI2
  have HI3 := Lib.hid hI3
  have HI4 := Lib.hid hI4
  have eM : ((((((((⟨#[109, 97, 108, 102, 111, 114, 109, 101, 100, 32]⟩ : ByteArray) ++ ⟨I1.toArray⟩) ++ ⟨#[32]⟩) ++ ⟨I2.toArray⟩) ++ ⟨#[32]⟩) ++ ⟨I3.toArray⟩) ++ ⟨#[32]⟩) ++ ⟨I4.toArray⟩) = ⟨((((((([109, 97, 108, 102, 111, 114, 109, 101, 100, 32] ++ I1) ++ [32]) ++ I2) ++ [32]) ++ I3) ++ [32]) ++ I4).toArray⟩ := by
    apply ByteArray.ext
    simp
  obtain ⟨H, hH⟩ : ∃ H, ((((((([109, 97, 108, 102, 111, 114, 109, 101, 100, 32] ++ I1) ++ [32]) ++ I2) ++ [32]) ++ I3) ++ [32]) ++ I4) = H := ⟨_, rfl⟩
  have hHl : H.length ≤ 200 := by rw [← hH]; simp; omega
  rw [hH] at eM
  rw [eM]
  have HH := Lib.hid hH
  clear hH eM q0 q1 q2 q3 q4 q5 q6 HRA HRB HRC HRD hbA hbB hbC hbD HR0 SR HV HBE0 hI1 hI2 hI3 hI4
  have HTB := Lib.hid b2
  have g0 : ¬ 9223372036854775807 < H.length + 1 := by omega
  have g1 : ¬ 9223372036854775807 < H.length + 1 + lk.size := by omega
  have g2 : ¬ 9223372036854775807 < H.length + 1 + lk.size + wy.size := by omega
  have g3 : ¬ 9223372036854775807 < H.length + 1 + lk.size + wy.size + au.size := by omega
  have HTW : Hid (∀ w', Below wD.heap.size wD w' → Lib.TabIs Tryz.prog w' "internal/strconv.uint64pow10" .u64 Lib.pow10Tab) := Lib.hid (fun w' h => tab_below (tab_below HT.out (hB0 ▸ HTB.out)) h)
  have HBE : Hid (Below w.heap.size w wD) := Lib.hid (hB0 ▸ HTB.out)
  have SK : Hid (∀ w', Below wD.heap.size wD w' → w'.cell? ⟨B0, 0, none⟩ = some (.int .i64 1) ∧ w'.cell? ⟨B0, 1, none⟩ = some (.int .i64 inp) ∧ w'.cell? ⟨B0, 2, none⟩ = some (.int .i64 code) ∧ w'.cell? ⟨B0, 3, none⟩ = some (.int .i64 ln) ∧ w'.cell? ⟨B0, 4, none⟩ = some (.int .i64 col) ∧ w'.cell? ⟨B0, 5, none⟩ = some (.int .i64 st) ∧ w'.cell? ⟨B0, 6, none⟩ = some (.string lk) ∧ w'.cell? ⟨B0, 7, none⟩ = some (.string wy) ∧ w'.cell? ⟨B0, 8, none⟩ = some (.string au)) := Lib.hid (fun w' h => ⟨(v2.after h).get 0 rfl, (v2.after h).get 1 rfl, (v2.after h).get 2 rfl, (v2.after h).get 3 rfl, (v2.after h).get 4 rfl, (v2.after h).get 5 rfl, (v2.after h).get 6 rfl, (v2.after h).get 7 rfl, (v2.after h).get 8 rfl⟩)
  clear HT b2 HTB v2
  have HB0 : Below wD.heap.size wD wD.drew := Below.drew (Below.refl _ _)
  obtain ⟨T, hT⟩ : ∃ T, textT 1 inp code ln col st lk wy au = T := ⟨_, rfl⟩
  have HTT := Lib.hid hT
  go_wp2_with fail
  go_region_held3 (fun w' => w'.cell? ⟨B0, 0, none⟩ = some (.int .i64 1) ∧ w'.cell? ⟨B0, 1, none⟩ = some (.int .i64 inp) ∧ w'.cell? ⟨B0, 2, none⟩ = some (.int .i64 code) ∧ w'.cell? ⟨B0, 3, none⟩ = some (.int .i64 ln) ∧ w'.cell? ⟨B0, 4, none⟩ = some (.int .i64 col) ∧ w'.cell? ⟨B0, 5, none⟩ = some (.int .i64 st) ∧ w'.cell? ⟨B0, 6, none⟩ = some (.string lk) ∧ w'.cell? ⟨B0, 7, none⟩ = some (.string wy) ∧ w'.cell? ⟨B0, 8, none⟩ = some (.string au)) (first | exact SK.out _ HBB | exact SK.out _ HBA | exact SK.out _ HB0 | fail "no S") (first
    | (go_at_call 5; (with_reducible refine (ran_any _).mono ?_); rintro e wA ⟨rfl, hbA⟩; have HBA : Below wD.heap.size wD wA := HB0.trans hbA)
    | (go_at_call 6; (with_reducible refine (text_any 1 inp code ln col st hst hi hc hn hl lk wy au k1 k2 k3 _ (HTW.out _ HBA)).mono ?_); rintro e wB ⟨rfl, hbB⟩; have HBB : Below wD.heap.size wD wB := HBA.trans (hbB.mono HBA.size))
    | fail "no arm")
  all_goals
    go_wp2_with fail
    go_ret
    refine ⟨?_, HBE.out.trans (HBB.mono HBE.out.size)⟩
    have e1 : (⟨(lineW [[109, 97, 108, 102, 111, 114, 109, 101, 100], I1, I2, I3, I4] ++ [10]).toArray⟩ : ByteArray) = ⟨H.toArray⟩ ++ ⟨#[10]⟩ := by
      rw [show (⟨H.toArray⟩ : ByteArray) ++ ⟨#[10]⟩ = ⟨(H ++ [10]).toArray⟩ from app_str H [10], ← HH.out]
      simp [lineW]
    have e2 : T = (((⟨H.toArray⟩ : ByteArray) ++ ⟨#[10]⟩) ++ lk) ++ wy ++ au := by
      rw [← HTT.out, ← e1]
      unfold textT wordsT
      rw [if_pos rfl, HI1.out, HI2.out, HI3.out, HI4.out]
    show Ending.returned (Value.bool (T.toList == _)) = _
    rw [← e2]
    simp
theorem runTexts_walk (tag inp code ln col st : Int) (ht : I64 tag) (hst : I64 st) (hi : I64 inp) (hc : I64 code) (hn : I64 ln) (hl : I64 col) (lk wy au : ByteArray) (k1 : lk.size ≤ 140737488355328) (k2 : wy.size ≤ 140737488355328) (k3 : au.size ≤ 140737488355328) (w : World) (htab : Lib.TabIs Tryz.prog w "internal/strconv.uint64pow10" .u64 Lib.pow10Tab) :
    Calls Tryz.prog 3 #[.agg #[.int .i64 tag, .int .i64 inp, .int .i64 code, .int .i64 ln, .int .i64 col, .int .i64 st, .string lk, .string wy, .string au]] w fun e w' => e = .returned (.bool true) ∧ Below w.heap.size w w' := by
  by_cases h1 : tag = 1
  · subst h1; exact law_one inp code ln col st hst hi hc hn hl lk wy au k1 k2 k3 w htab
  · by_cases h3 : tag = 3
    · subst h3; exact law_three inp code ln col st hst hi hc hn hl lk wy au k1 k2 k3 w htab
    · by_cases h4 : tag = 4
      · subst h4; exact law_four inp code ln col st hst hi hc hn hl lk wy au k1 k2 k3 w htab
      · exact law_other tag inp code ln col st hst hi hc hn hl h1 h3 h4 lk wy au k1 k2 k3 w htab
end Go.Proofs.YtoebfmhogkjmgaaGreatDoor
