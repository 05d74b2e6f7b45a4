/- The law of a run's text. -/
import Derived.Test.YtoebfmhogkjmgaaGreatDoorRtD
import Derived.Test.YtoebfmhogkjmgaaGreatDoorRa5
namespace Go.Proofs.YtoebfmhogkjmgaaGreatDoor
open Go.RowKit
set_option linter.unusedVariables false
theorem text_any (tag inp code ln col st : Int) (hst : I64 st) (hi : I64 inp) (hc : I64 code) (hn : I64 ln) (hl : I64 col) (lk wy au : ByteArray) (k1 : lk.size ≤ 140737488355328) (k2 : wy.size ≤ 140737488355328) (k3 : au.size ≤ 140737488355328) (w : World) (ht : Lib.TabIs Tryz.prog w "internal/strconv.uint64pow10" .u64 Lib.pow10Tab) :
    Calls Tryz.prog 6 #[.agg #[.int .i64 tag, .int .i64 inp, .int .i64 code, .int .i64 ln, .int .i64 col, .int .i64 st, .string lk, .string wy, .string au]] w fun e w' => e = .returned (.string (textT tag inp code ln col st lk wy au)) ∧ Below w.heap.size w w' := by
  by_cases h1 : tag = 1
  · subst h1; exact text_one inp code ln col st hst hi hc hn hl lk wy au k1 k2 k3 w ht
  · by_cases h3 : tag = 3
    · subst h3; exact text_three inp code ln col st hst lk wy au k1 k2 k3 w ht
    · by_cases h4 : tag = 4
      · subst h4; exact text_four inp code ln col st hst lk wy au k1 k2 k3 w ht
      · exact text_other tag inp code ln col st hst h1 h3 h4 lk wy au k1 k2 k3 w ht
theorem ran_any (w : World) : Calls Tryz.prog 5 #[] w fun e w' => e = .returned (.bool true) ∧ Below w.heap.size w w' :=
  (Gx.closed_fact Gx.Raq18_ok w).mono fun e w' h => ⟨h.1, h.2.1, h.2.2.1, h.2.2.2.1, h.2.2.2.2.1, h.2.2.2.2.2⟩
theorem law_other (tag inp code ln col st : Int) (hst : I64 st) (hi : I64 inp) (hc : I64 code) (hn : I64 ln) (hl : I64 col) (h1 : ¬ tag = 1) (h3 : ¬ tag = 3) (h4 : ¬ tag = 4) (lk wy au : ByteArray) (k1 : lk.size ≤ 140737488355328) (k2 : wy.size ≤ 140737488355328) (k3 : au.size ≤ 140737488355328) (w : World) (ht : Lib.TabIs Tryz.prog w "internal/strconv.uint64pow10" .u64 Lib.pow10Tab) :
    Calls Tryz.prog 3 #[.agg #[.int .i64 tag, .int .i64 inp, .int .i64 code, .int .i64 ln, .int .i64 col, .int .i64 st, .string lk, .string wy, .string au]] w fun e w' => e = .returned (.bool true) ∧ Below w.heap.size w w' := by
  have hd1 : (tag == 1) = false := by simpa using h1
  have hd3 : (tag == 3) = false := by simpa using h3
  have hd4 : (tag == 4) = false := by simpa using h4
  have HT := Lib.hid ht
  clear ht
  go_enter Tryz.func3, Tryz.ntmps3
  go_wp2_with fail
  have v0 := varAt_new w #[.int .i64 tag, .int .i64 inp, .int .i64 code, .int .i64 ln, .int .i64 col, .int .i64 st, .string lk, .string wy, .string au] 26 _ rfl
  have b0 : Below w.heap.size w (w.alloc (.cells #[.int .i64 tag, .int .i64 inp, .int .i64 code, .int .i64 ln, .int .i64 col, .int .i64 st, .string lk, .string wy, .string au] 26)) := (Below.refl _ _).alloc (Nat.le_refl _) _
  refine (number_any st hst.1 hst.2 _).mono ?_
  rintro e w1 ⟨rfl, hb1⟩
  have v1 := v0.after hb1
  have b1 := b0.trans (hb1.mono b0.size)
  have c0 : w1.cell? ⟨w.heap.size, 0, none⟩ = some (.int .i64 tag) := v1.get 0 rfl
  have hil := itoa_len st hst.1 hst.2
  obtain ⟨I, hI⟩ : ∃ I, Lib.itoa st = I := ⟨_, rfl⟩
  rw [hI] at hil ⊢
  have HI := Lib.hid hI
  clear hI
  go_wp2_with fail
  obtain ⟨H, hH⟩ : ∃ H, [108, 105, 109, 105, 116, 32] ++ I = H := ⟨_, rfl⟩
  have hHl : H.length ≤ 200 := by rw [← hH]; simp; omega
  have eH : (⟨#[108, 105, 109, 105, 116, 32]⟩ : ByteArray) ++ ⟨I.toArray⟩ = ⟨H.toArray⟩ := by rw [← hH]; exact app_str [108, 105, 109, 105, 116, 32] I
  rw [eH]
  have HH := Lib.hid hH
  clear hH eH
  have g0 : ¬ 9223372036854775807 < H.length + 1 := by omega
  have g1 : ¬ 9223372036854775807 < H.length + 1 + lk.size := by omega
  have g2 : ¬ 9223372036854775807 < H.length + 1 + lk.size + wy.size := by omega
  have g3 : ¬ 9223372036854775807 < H.length + 1 + lk.size + wy.size + au.size := by omega
  have HTW : Hid (∀ w', Below w1.heap.size w1 w' → Lib.TabIs Tryz.prog w' "internal/strconv.uint64pow10" .u64 Lib.pow10Tab) := Lib.hid (fun w' h => tab_below (tab_below HT.out b1) h)
  have HBE := Lib.hid b1
  obtain ⟨B0, hB0⟩ : ∃ B, w.heap.size = B := ⟨_, rfl⟩
  rw [hB0] at v1 ⊢
  have SK : Hid (∀ w', Below w1.heap.size w1 w' → w'.cell? ⟨B0, 0, none⟩ = some (.int .i64 tag) ∧ w'.cell? ⟨B0, 1, none⟩ = some (.int .i64 inp) ∧ w'.cell? ⟨B0, 2, none⟩ = some (.int .i64 code) ∧ w'.cell? ⟨B0, 3, none⟩ = some (.int .i64 ln) ∧ w'.cell? ⟨B0, 4, none⟩ = some (.int .i64 col) ∧ w'.cell? ⟨B0, 5, none⟩ = some (.int .i64 st) ∧ w'.cell? ⟨B0, 6, none⟩ = some (.string lk) ∧ w'.cell? ⟨B0, 7, none⟩ = some (.string wy) ∧ w'.cell? ⟨B0, 8, none⟩ = some (.string au)) := Lib.hid (fun w' h => ⟨(v1.after h).get 0 rfl, (v1.after h).get 1 rfl, (v1.after h).get 2 rfl, (v1.after h).get 3 rfl, (v1.after h).get 4 rfl, (v1.after h).get 5 rfl, (v1.after h).get 6 rfl, (v1.after h).get 7 rfl, (v1.after h).get 8 rfl⟩)
  clear HT b1 c0 v0 b0 hb1 v1
  have HB0 : Below w1.heap.size w1 w1.drew := Below.drew (Below.refl _ _)
  obtain ⟨T, hT⟩ : ∃ T, textT tag inp code ln col st lk wy au = T := ⟨_, rfl⟩
  have HTT := Lib.hid hT
  go_region_held3 (fun w' => w'.cell? ⟨B0, 0, none⟩ = some (.int .i64 tag) ∧ w'.cell? ⟨B0, 1, none⟩ = some (.int .i64 inp) ∧ w'.cell? ⟨B0, 2, none⟩ = some (.int .i64 code) ∧ w'.cell? ⟨B0, 3, none⟩ = some (.int .i64 ln) ∧ w'.cell? ⟨B0, 4, none⟩ = some (.int .i64 col) ∧ w'.cell? ⟨B0, 5, none⟩ = some (.int .i64 st) ∧ w'.cell? ⟨B0, 6, none⟩ = some (.string lk) ∧ w'.cell? ⟨B0, 7, none⟩ = some (.string wy) ∧ w'.cell? ⟨B0, 8, none⟩ = some (.string au)) (first | exact SK.out _ HBB | exact SK.out _ HBA | exact SK.out _ HB0 | fail "no S") (first
    | (go_at_call 5; (with_reducible refine (ran_any _).mono ?_); rintro e wA ⟨rfl, hbA⟩; have HBA : Below w1.heap.size w1 wA := HB0.trans hbA)
    | (go_at_call 6; (with_reducible refine (text_any tag inp code ln col st hst hi hc hn hl lk wy au k1 k2 k3 _ (HTW.out _ HBA)).mono ?_); rintro e wB ⟨rfl, hbB⟩; have HBB : Below w1.heap.size w1 wB := HBA.trans (hbB.mono HBA.size))
    | fail "no arm")
  all_goals
    go_wp2_with fail
    go_ret
    refine ⟨?_, HBE.out.trans (HBB.mono HBE.out.size)⟩
    have e1 : (⟨(lineW [[108, 105, 109, 105, 116], I] ++ [10]).toArray⟩ : ByteArray) = ⟨H.toArray⟩ ++ ⟨#[10]⟩ := by
      rw [show (⟨H.toArray⟩ : ByteArray) ++ ⟨#[10]⟩ = ⟨(H ++ [10]).toArray⟩ from app_str H [10], ← HH.out]
      simp [lineW]
    have e2 : T = (((⟨H.toArray⟩ : ByteArray) ++ ⟨#[10]⟩) ++ lk) ++ wy ++ au := by
      rw [← HTT.out, ← e1]
      unfold textT wordsT
      rw [if_neg h1, if_neg h3, if_neg h4, HI.out]
    show Ending.returned (Value.bool (T.toList == _)) = _
    rw [← e2]
    simp
theorem law_three (inp code ln col st : Int) (hst : I64 st) (hi : I64 inp) (hc : I64 code) (hn : I64 ln) (hl : I64 col) (lk wy au : ByteArray) (k1 : lk.size ≤ 140737488355328) (k2 : wy.size ≤ 140737488355328) (k3 : au.size ≤ 140737488355328) (w : World) (ht : Lib.TabIs Tryz.prog w "internal/strconv.uint64pow10" .u64 Lib.pow10Tab) :
    Calls Tryz.prog 3 #[.agg #[.int .i64 3, .int .i64 inp, .int .i64 code, .int .i64 ln, .int .i64 col, .int .i64 st, .string lk, .string wy, .string au]] w fun e w' => e = .returned (.bool true) ∧ Below w.heap.size w w' := by
  have HT := Lib.hid ht
  clear ht
  go_enter Tryz.func3, Tryz.ntmps3
  go_wp2_with fail
  have v0 := varAt_new w #[.int .i64 3, .int .i64 inp, .int .i64 code, .int .i64 ln, .int .i64 col, .int .i64 st, .string lk, .string wy, .string au] 26 _ rfl
  have b0 : Below w.heap.size w (w.alloc (.cells #[.int .i64 3, .int .i64 inp, .int .i64 code, .int .i64 ln, .int .i64 col, .int .i64 st, .string lk, .string wy, .string au] 26)) := (Below.refl _ _).alloc (Nat.le_refl _) _
  refine (number_any st hst.1 hst.2 _).mono ?_
  rintro e w1 ⟨rfl, hb1⟩
  have v1 := v0.after hb1
  have b1 := b0.trans (hb1.mono b0.size)
  have c5 : w1.cell? ⟨w.heap.size, 5, none⟩ = some (.int .i64 st) := v1.get 5 rfl
  have c0 : w1.cell? ⟨w.heap.size, 0, none⟩ = some (.int .i64 3) := v1.get 0 rfl
  have hil := itoa_len st hst.1 hst.2
  obtain ⟨I, hI⟩ : ∃ I, Lib.itoa st = I := ⟨_, rfl⟩
  rw [hI] at hil ⊢
  have HI := Lib.hid hI
  clear hI
  go_wp2_with fail
  refine (number_any st hst.1 hst.2 _).mono ?_
  rintro e w2 ⟨rfl, hb2⟩
  have v2 := v1.after hb2
  have b2 := b1.trans (hb2.mono b1.size)
  rw [HI.out]
  clear c0 c5 v1 b1
  go_wp2_with fail
  obtain ⟨H, hH⟩ : ∃ H, [115, 111, 108, 118, 101, 100, 32] ++ I = H := ⟨_, rfl⟩
  have hHl : H.length ≤ 200 := by rw [← hH]; simp; omega
  have eH : (⟨#[115, 111, 108, 118, 101, 100, 32]⟩ : ByteArray) ++ ⟨I.toArray⟩ = ⟨H.toArray⟩ := by rw [← hH]; exact app_str [115, 111, 108, 118, 101, 100, 32] I
  rw [eH]
  have HH := Lib.hid hH
  clear hH eH
  have g0 : ¬ 9223372036854775807 < H.length + 1 := by omega
  have g1 : ¬ 9223372036854775807 < H.length + 1 + lk.size := by omega
  have g2 : ¬ 9223372036854775807 < H.length + 1 + lk.size + wy.size := by omega
  have g3 : ¬ 9223372036854775807 < H.length + 1 + lk.size + wy.size + au.size := by omega
  have HTW : Hid (∀ w', Below w2.heap.size w2 w' → Lib.TabIs Tryz.prog w' "internal/strconv.uint64pow10" .u64 Lib.pow10Tab) := Lib.hid (fun w' h => tab_below (tab_below HT.out b2) h)
  have HBE := Lib.hid b2
  obtain ⟨B0, hB0⟩ : ∃ B, w.heap.size = B := ⟨_, rfl⟩
  rw [hB0] at v2 ⊢
  have SK : Hid (∀ w', Below w2.heap.size w2 w' → w'.cell? ⟨B0, 0, none⟩ = some (.int .i64 3) ∧ w'.cell? ⟨B0, 1, none⟩ = some (.int .i64 inp) ∧ w'.cell? ⟨B0, 2, none⟩ = some (.int .i64 code) ∧ w'.cell? ⟨B0, 3, none⟩ = some (.int .i64 ln) ∧ w'.cell? ⟨B0, 4, none⟩ = some (.int .i64 col) ∧ w'.cell? ⟨B0, 5, none⟩ = some (.int .i64 st) ∧ w'.cell? ⟨B0, 6, none⟩ = some (.string lk) ∧ w'.cell? ⟨B0, 7, none⟩ = some (.string wy) ∧ w'.cell? ⟨B0, 8, none⟩ = some (.string au)) := Lib.hid (fun w' h => ⟨(v2.after h).get 0 rfl, (v2.after h).get 1 rfl, (v2.after h).get 2 rfl, (v2.after h).get 3 rfl, (v2.after h).get 4 rfl, (v2.after h).get 5 rfl, (v2.after h).get 6 rfl, (v2.after h).get 7 rfl, (v2.after h).get 8 rfl⟩)
  clear HT b2 v0 b0 hb1 hb2 v2
  have HB0 : Below w2.heap.size w2 w2.drew := Below.drew (Below.refl _ _)
  obtain ⟨T, hT⟩ : ∃ T, textT 3 inp code ln col st lk wy au = T := ⟨_, rfl⟩
  have HTT := Lib.hid hT
  go_region_held3 (fun w' => w'.cell? ⟨B0, 0, none⟩ = some (.int .i64 3) ∧ w'.cell? ⟨B0, 1, none⟩ = some (.int .i64 inp) ∧ w'.cell? ⟨B0, 2, none⟩ = some (.int .i64 code) ∧ w'.cell? ⟨B0, 3, none⟩ = some (.int .i64 ln) ∧ w'.cell? ⟨B0, 4, none⟩ = some (.int .i64 col) ∧ w'.cell? ⟨B0, 5, none⟩ = some (.int .i64 st) ∧ w'.cell? ⟨B0, 6, none⟩ = some (.string lk) ∧ w'.cell? ⟨B0, 7, none⟩ = some (.string wy) ∧ w'.cell? ⟨B0, 8, none⟩ = some (.string au)) (first | exact SK.out _ HBB | exact SK.out _ HBA | exact SK.out _ HB0 | fail "no S") (first
    | (go_at_call 5; (with_reducible refine (ran_any _).mono ?_); rintro e wA ⟨rfl, hbA⟩; have HBA : Below w2.heap.size w2 wA := HB0.trans hbA)
    | (go_at_call 6; (with_reducible refine (text_any 3 inp code ln col st hst hi hc hn hl lk wy au k1 k2 k3 _ (HTW.out _ HBA)).mono ?_); rintro e wB ⟨rfl, hbB⟩; have HBB : Below w2.heap.size w2 wB := HBA.trans (hbB.mono HBA.size))
    | fail "no arm")
  all_goals
    go_wp2_with fail
    go_ret
    refine ⟨?_, HBE.out.trans (HBB.mono HBE.out.size)⟩
    have e1 : (⟨(lineW [[115, 111, 108, 118, 101, 100], I] ++ [10]).toArray⟩ : ByteArray) = ⟨H.toArray⟩ ++ ⟨#[10]⟩ := by
      rw [show (⟨H.toArray⟩ : ByteArray) ++ ⟨#[10]⟩ = ⟨(H ++ [10]).toArray⟩ from app_str H [10], ← HH.out]
      simp [lineW]
    have e2 : T = (((⟨H.toArray⟩ : ByteArray) ++ ⟨#[10]⟩) ++ lk) ++ wy ++ au := by
      rw [← HTT.out, ← e1]
      unfold textT wordsT
      rw [if_neg (by decide), if_pos rfl, HI.out]
    show Ending.returned (Value.bool (T.toList == _)) = _
    rw [← e2]
    simp
theorem law_four (inp code ln col st : Int) (hst : I64 st) (hi : I64 inp) (hc : I64 code) (hn : I64 ln) (hl : I64 col) (lk wy au : ByteArray) (k1 : lk.size ≤ 140737488355328) (k2 : wy.size ≤ 140737488355328) (k3 : au.size ≤ 140737488355328) (w : World) (ht : Lib.TabIs Tryz.prog w "internal/strconv.uint64pow10" .u64 Lib.pow10Tab) :
    Calls Tryz.prog 3 #[.agg #[.int .i64 4, .int .i64 inp, .int .i64 code, .int .i64 ln, .int .i64 col, .int .i64 st, .string lk, .string wy, .string au]] w fun e w' => e = .returned (.bool true) ∧ Below w.heap.size w w' := by
  have HT := Lib.hid ht
  clear ht
  go_enter Tryz.func3, Tryz.ntmps3
  go_wp2_with fail
  have v0 := varAt_new w #[.int .i64 4, .int .i64 inp, .int .i64 code, .int .i64 ln, .int .i64 col, .int .i64 st, .string lk, .string wy, .string au] 26 _ rfl
  have b0 : Below w.heap.size w (w.alloc (.cells #[.int .i64 4, .int .i64 inp, .int .i64 code, .int .i64 ln, .int .i64 col, .int .i64 st, .string lk, .string wy, .string au] 26)) := (Below.refl _ _).alloc (Nat.le_refl _) _
  refine (number_any st hst.1 hst.2 _).mono ?_
  rintro e w1 ⟨rfl, hb1⟩
  have v1 := v0.after hb1
  have b1 := b0.trans (hb1.mono b0.size)
  have c5 : w1.cell? ⟨w.heap.size, 5, none⟩ = some (.int .i64 st) := v1.get 5 rfl
  have c0 : w1.cell? ⟨w.heap.size, 0, none⟩ = some (.int .i64 4) := v1.get 0 rfl
  have hil := itoa_len st hst.1 hst.2
  obtain ⟨I, hI⟩ : ∃ I, Lib.itoa st = I := ⟨_, rfl⟩
  rw [hI] at hil ⊢
  have HI := Lib.hid hI
  clear hI
  go_wp2_with fail
  refine (number_any st hst.1 hst.2 _).mono ?_
  rintro e w2 ⟨rfl, hb2⟩
  have v2 := v1.after hb2
  have b2 := b1.trans (hb2.mono b1.size)
  rw [HI.out]
  clear c0 c5 v1 b1
  go_wp2_with fail
  obtain ⟨H, hH⟩ : ∃ H, [110, 111, 110, 101, 32] ++ I = H := ⟨_, rfl⟩
  have hHl : H.length ≤ 200 := by rw [← hH]; simp; omega
  have eH : (⟨#[110, 111, 110, 101, 32]⟩ : ByteArray) ++ ⟨I.toArray⟩ = ⟨H.toArray⟩ := by rw [← hH]; exact app_str [110, 111, 110, 101, 32] I
  rw [eH]
  have HH := Lib.hid hH
  clear hH eH
  have g0 : ¬ 9223372036854775807 < H.length + 1 := by omega
  have g1 : ¬ 9223372036854775807 < H.length + 1 + lk.size := by omega
  have g2 : ¬ 9223372036854775807 < H.length + 1 + lk.size + wy.size := by omega
  have g3 : ¬ 9223372036854775807 < H.length + 1 + lk.size + wy.size + au.size := by omega
  have HTW : Hid (∀ w', Below w2.heap.size w2 w' → Lib.TabIs Tryz.prog w' "internal/strconv.uint64pow10" .u64 Lib.pow10Tab) := Lib.hid (fun w' h => tab_below (tab_below HT.out b2) h)
  have HBE := Lib.hid b2
  obtain ⟨B0, hB0⟩ : ∃ B, w.heap.size = B := ⟨_, rfl⟩
  rw [hB0] at v2 ⊢
  have SK : Hid (∀ w', Below w2.heap.size w2 w' → w'.cell? ⟨B0, 0, none⟩ = some (.int .i64 4) ∧ w'.cell? ⟨B0, 1, none⟩ = some (.int .i64 inp) ∧ w'.cell? ⟨B0, 2, none⟩ = some (.int .i64 code) ∧ w'.cell? ⟨B0, 3, none⟩ = some (.int .i64 ln) ∧ w'.cell? ⟨B0, 4, none⟩ = some (.int .i64 col) ∧ w'.cell? ⟨B0, 5, none⟩ = some (.int .i64 st) ∧ w'.cell? ⟨B0, 6, none⟩ = some (.string lk) ∧ w'.cell? ⟨B0, 7, none⟩ = some (.string wy) ∧ w'.cell? ⟨B0, 8, none⟩ = some (.string au)) := Lib.hid (fun w' h => ⟨(v2.after h).get 0 rfl, (v2.after h).get 1 rfl, (v2.after h).get 2 rfl, (v2.after h).get 3 rfl, (v2.after h).get 4 rfl, (v2.after h).get 5 rfl, (v2.after h).get 6 rfl, (v2.after h).get 7 rfl, (v2.after h).get 8 rfl⟩)
  clear HT b2 v0 b0 hb1 hb2 v2
  have HB0 : Below w2.heap.size w2 w2.drew := Below.drew (Below.refl _ _)
  obtain ⟨T, hT⟩ : ∃ T, textT 4 inp code ln col st lk wy au = T := ⟨_, rfl⟩
  have HTT := Lib.hid hT
  go_region_held3 (fun w' => w'.cell? ⟨B0, 0, none⟩ = some (.int .i64 4) ∧ w'.cell? ⟨B0, 1, none⟩ = some (.int .i64 inp) ∧ w'.cell? ⟨B0, 2, none⟩ = some (.int .i64 code) ∧ w'.cell? ⟨B0, 3, none⟩ = some (.int .i64 ln) ∧ w'.cell? ⟨B0, 4, none⟩ = some (.int .i64 col) ∧ w'.cell? ⟨B0, 5, none⟩ = some (.int .i64 st) ∧ w'.cell? ⟨B0, 6, none⟩ = some (.string lk) ∧ w'.cell? ⟨B0, 7, none⟩ = some (.string wy) ∧ w'.cell? ⟨B0, 8, none⟩ = some (.string au)) (first | exact SK.out _ HBB | exact SK.out _ HBA | exact SK.out _ HB0 | fail "no S") (first
    | (go_at_call 5; (with_reducible refine (ran_any _).mono ?_); rintro e wA ⟨rfl, hbA⟩; have HBA : Below w2.heap.size w2 wA := HB0.trans hbA)
    | (go_at_call 6; (with_reducible refine (text_any 4 inp code ln col st hst hi hc hn hl lk wy au k1 k2 k3 _ (HTW.out _ HBA)).mono ?_); rintro e wB ⟨rfl, hbB⟩; have HBB : Below w2.heap.size w2 wB := HBA.trans (hbB.mono HBA.size))
    | fail "no arm")
  all_goals
    go_wp2_with fail
    go_ret
    refine ⟨?_, HBE.out.trans (HBB.mono HBE.out.size)⟩
    have e1 : (⟨(lineW [[110, 111, 110, 101], I] ++ [10]).toArray⟩ : ByteArray) = ⟨H.toArray⟩ ++ ⟨#[10]⟩ := by
      rw [show (⟨H.toArray⟩ : ByteArray) ++ ⟨#[10]⟩ = ⟨(H ++ [10]).toArray⟩ from app_str H [10], ← HH.out]
      simp [lineW]
    have e2 : T = (((⟨H.toArray⟩ : ByteArray) ++ ⟨#[10]⟩) ++ lk) ++ wy ++ au := by
      rw [← HTT.out, ← e1]
      unfold textT wordsT
      rw [if_neg (by decide), if_neg (by decide), if_pos rfl, HI.out]
    show Ending.returned (Value.bool (T.toList == _)) = _
    rw [← e2]
    simp
end Go.Proofs.YtoebfmhogkjmgaaGreatDoor
