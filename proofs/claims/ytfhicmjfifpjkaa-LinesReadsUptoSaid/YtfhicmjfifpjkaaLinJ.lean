/- The walk of LinesReads. -/
import Derived.Test.YtfhicmjfifpjkaaLinI
import Derived.Deep.RegionWith
namespace Go.Proofs.Ytfhicmjfifpjkaa
open Go.RowKit
set_option linter.unusedVariables false
/-- what a reading comes to, as a value and as three numbers -/
def resF : RRes → Int × Int × Int
  | .bad c l k => (c, l, k)
  | .ok _ => (0, 0, 0)
def resL : RRes → List LineD
  | .bad _ _ _ => []
  | .ok L => L
theorem readPost_any {w : World} {res : RRes} {e : Ending} {w' : World} (h : ReadPost w res e w') :
    ∃ a cap, e = .returned (.tuple #[.slice a (resL res).length cap, .agg #[.int .i64 (resF res).1, .int .i64 (resF res).2.1, .int .i64 (resF res).2.2]]) ∧ RowOf 3 LineC w' (.slice a (resL res).length cap) (resL res) ∧ Below w.heap.size w w' := by
  cases res with
  | bad c l k =>
    obtain ⟨rfl, hb⟩ := h
    exact ⟨none, 0, rfl, .inl ⟨_, _, rfl, rfl, by omega⟩, hb⟩
  | ok L =>
    obtain ⟨v, rfl, hr, hb⟩ := h
    obtain ⟨a, cap, rfl⟩ := hr.here.shape
    exact ⟨a, cap, rfl, hr.here, hb⟩
set_option maxRecDepth 1000000 in
set_option maxHeartbeats 1600000 in
theorem linesReads_list (l : List UInt8) (w : World) (hl : l.length ≤ 1099511627776) :
    Calls Try.prog 4 #[.string ⟨l.toArray⟩] w fun e w' => e = .returned (.bool true) ∧ Below w.heap.size w w' := by
  obtain ⟨r1, hr1⟩ : ∃ r, readTop l = r := ⟨_, rfl⟩
  obtain ⟨r2, hr2⟩ : ∃ r, readL (l.length + 1) l 1 [] = r := ⟨_, rfl⟩
  have HR1 := Lib.hid hr1
  have HR2 := Lib.hid hr2
  clear hr1 hr2
  go_enter Try.func4, Try.ntmps4
  go_wp2_with fail
  refine (top_read l _ _ HR1 (by omega)).mono ?_
  intro e w1 hp
  obtain ⟨a1, p1, rfl, hrow1, hb1⟩ := readPost_any hp
  clear hp
  have HROW1 := Lib.hid hrow1
  clear hrow1
  go_wp2_with fail
  refine (rtop_read l _ _ HR1 (by omega)).mono ?_
  intro e w2 hp
  obtain ⟨a2, p2, rfl, hrow2, hb2⟩ := readPost_any hp
  clear hp
  have HROW2 := Lib.hid hrow2
  clear hrow2
  go_wp2_with fail
  refine (any_read l _ _ HR2 hl).mono ?_
  intro e w3 hp
  obtain ⟨a3, p3, rfl, hrow3, hb3⟩ := readPost_any hp
  clear hp
  have HROW3 := Lib.hid hrow3
  clear hrow3
  go_wp2_with fail
  refine (rread_list l (l.length + 1) _ _ HR2 hl (by omega)).mono ?_
  intro e w4 hp
  obtain ⟨a4, p4, rfl, hrow4, hb4⟩ := readPost_any hp
  clear hp
  have HROW4 := Lib.hid hrow4
  clear hrow4
  obtain ⟨⟨x1, y1, z1⟩, hx1⟩ : ∃ t, resF r1 = t := ⟨_, rfl⟩
  obtain ⟨⟨x2, y2, z2⟩, hx2⟩ : ∃ t, resF r2 = t := ⟨_, rfl⟩
  simp only [hx1, hx2] at *
  obtain ⟨L1, hL1⟩ : ∃ t, resL r1 = t := ⟨_, rfl⟩
  obtain ⟨L2, hL2⟩ : ∃ t, resL r2 = t := ⟨_, rfl⟩
  rw [hL1] at HROW1 HROW2
  rw [hL2] at HROW3 HROW4
  simp only [hL1, hL2]
  clear hx1 hx2 hL1 hL2
  go_wp2_with fail
  have v4 := (((((varAt_new w1 #[.int .i64 x1, .int .i64 y1, .int .i64 z1] 30 _ rfl).after hb2).alloc (.cells #[.int .i64 x1, .int .i64 y1, .int .i64 z1] 39)).after hb3).alloc (.cells #[.int .i64 x2, .int .i64 y2, .int .i64 z2] 30)).after hb4 |>.alloc (.cells #[.int .i64 x2, .int .i64 y2, .int .i64 z2] 39)
  have v6 := (((varAt_new w2 #[.int .i64 x1, .int .i64 y1, .int .i64 z1] 39 _ rfl).after hb3).alloc (.cells #[.int .i64 x2, .int .i64 y2, .int .i64 z2] 30)).after hb4 |>.alloc (.cells #[.int .i64 x2, .int .i64 y2, .int .i64 z2] 39)
  have v8 := ((varAt_new w3 #[.int .i64 x2, .int .i64 y2, .int .i64 z2] 30 _ rfl).after hb4).alloc (.cells #[.int .i64 x2, .int .i64 y2, .int .i64 z2] 39)
  have v10 := varAt_new w4 #[.int .i64 x2, .int .i64 y2, .int .i64 z2] 39 _ rfl
  have hb4' : Below w4.heap.size w4 (w4.alloc (.cells #[.int .i64 x2, .int .i64 y2, .int .i64 z2] 39)) := (Below.refl _ _).alloc (Nat.le_refl _) _
  have hb3' : Below w3.heap.size w3 w4 := ((Below.refl _ _).alloc (Nat.le_refl _) _).trans (hb4.mono (by simp))
  have hb2' : Below w2.heap.size w2 w3 := ((Below.refl _ _).alloc (Nat.le_refl _) _).trans (hb3.mono (by simp))
  have hb1' : Below w1.heap.size w1 w2 := ((Below.refl _ _).alloc (Nat.le_refl _) _).trans (hb2.mono (by simp))
  have hrow4 := HROW4.out.below lineC_lasts hb4'
  have hrow3 := (HROW3.out.below lineC_lasts hb3').below lineC_lasts hb4'
  have hrow2 := ((HROW2.out.below lineC_lasts hb2').below lineC_lasts hb3').below lineC_lasts hb4'
  have hrow1 := (((HROW1.out.below lineC_lasts hb1').below lineC_lasts hb2').below lineC_lasts hb3').below lineC_lasts hb4'
  have hbe : Below w.heap.size w (w4.alloc (.cells #[.int .i64 x2, .int .i64 y2, .int .i64 z2] 39)) :=
    (((hb1.trans (hb1'.mono hb1.size)).trans (hb2'.mono (Nat.le_trans hb1.size hb1'.size))).trans (hb3'.mono (Nat.le_trans (Nat.le_trans hb1.size hb1'.size) hb2'.size))).trans (hb4'.mono (Nat.le_trans (Nat.le_trans (Nat.le_trans hb1.size hb1'.size) hb2'.size) hb3'.size))
  obtain ⟨W, hW⟩ : ∃ W, w4.alloc (.cells #[.int .i64 x2, .int .i64 y2, .int .i64 z2] 39) = W := ⟨_, rfl⟩
  rw [hW] at v4 v6 v8 v10 hrow1 hrow2 hrow3 hrow4 hbe ⊢
  clear hW hb1 hb2 hb3 hb4 hb1' hb2' hb3' hb4' HROW1 HROW2 HROW3 HROW4 HR1 HR2
  obtain ⟨B4, hB4⟩ : ∃ B, w1.heap.size = B := ⟨_, rfl⟩
  obtain ⟨B6, hB6⟩ : ∃ B, w2.heap.size = B := ⟨_, rfl⟩
  obtain ⟨B8, hB8⟩ : ∃ B, w3.heap.size = B := ⟨_, rfl⟩
  obtain ⟨B10, hB10⟩ : ∃ B, w4.heap.size = B := ⟨_, rfl⟩
  rw [hB4] at v4
  rw [hB6] at v6
  rw [hB8] at v8
  rw [hB10] at v10
  simp only [hB4, hB6, hB8, hB10]
  clear hB4 hB6 hB8 hB10
  have SK : Hid (∀ w', Below W.heap.size W w' → w'.cell? ⟨B4, 0, none⟩ = some (.int .i64 x1) ∧ w'.cell? ⟨B4, 1, none⟩ = some (.int .i64 y1) ∧ w'.cell? ⟨B4, 2, none⟩ = some (.int .i64 z1) ∧ w'.cell? ⟨B6, 0, none⟩ = some (.int .i64 x1) ∧ w'.cell? ⟨B6, 1, none⟩ = some (.int .i64 y1) ∧ w'.cell? ⟨B6, 2, none⟩ = some (.int .i64 z1) ∧ w'.cell? ⟨B8, 0, none⟩ = some (.int .i64 x2) ∧ w'.cell? ⟨B8, 1, none⟩ = some (.int .i64 y2) ∧ w'.cell? ⟨B8, 2, none⟩ = some (.int .i64 z2) ∧ w'.cell? ⟨B10, 0, none⟩ = some (.int .i64 x2) ∧ w'.cell? ⟨B10, 1, none⟩ = some (.int .i64 y2) ∧ w'.cell? ⟨B10, 2, none⟩ = some (.int .i64 z2)) := Lib.hid (fun w' h => ⟨(v4.after h).get 0 rfl, (v4.after h).get 1 rfl, (v4.after h).get 2 rfl, (v6.after h).get 0 rfl, (v6.after h).get 1 rfl, (v6.after h).get 2 rfl, (v8.after h).get 0 rfl, (v8.after h).get 1 rfl, (v8.after h).get 2 rfl, (v10.after h).get 0 rfl, (v10.after h).get 1 rfl, (v10.after h).get 2 rfl⟩)
  have HR1 := Lib.hid hrow1
  have HR2 := Lib.hid hrow2
  have HR3 := Lib.hid hrow3
  have HR4 := Lib.hid hrow4
  have HBE := Lib.hid hbe
  clear v4 v6 v8 v10 hrow1 hrow2 hrow3 hrow4 hbe
  have HB0 : Below W.heap.size W W.drew := Below.drew (Below.refl _ _)
  go_region_held3 (fun w' => w'.cell? ⟨B4, 0, none⟩ = some (.int .i64 x1) ∧ w'.cell? ⟨B4, 1, none⟩ = some (.int .i64 y1) ∧ w'.cell? ⟨B4, 2, none⟩ = some (.int .i64 z1) ∧ w'.cell? ⟨B6, 0, none⟩ = some (.int .i64 x1) ∧ w'.cell? ⟨B6, 1, none⟩ = some (.int .i64 y1) ∧ w'.cell? ⟨B6, 2, none⟩ = some (.int .i64 z1) ∧ w'.cell? ⟨B8, 0, none⟩ = some (.int .i64 x2) ∧ w'.cell? ⟨B8, 1, none⟩ = some (.int .i64 y2) ∧ w'.cell? ⟨B8, 2, none⟩ = some (.int .i64 z2) ∧ w'.cell? ⟨B10, 0, none⟩ = some (.int .i64 x2) ∧ w'.cell? ⟨B10, 1, none⟩ = some (.int .i64 y2) ∧ w'.cell? ⟨B10, 2, none⟩ = some (.int .i64 z2)) (first | exact SK.out _ HBF | exact SK.out _ HBD | exact SK.out _ HBC | exact SK.out _ HBB | exact SK.out _ HBA | exact SK.out _ HB0) (first | (go_at_call 9; (with_reducible refine (lread_any _).mono ?_); rintro e wA ⟨rfl, hbA⟩; have HBA : Below W.heap.size W wA := HB0.trans hbA) | (go_at_call 16; (with_reducible refine (fault_any x1 y1 z1 _).mono ?_); rintro e wB ⟨rfl, hbB⟩; have HBB : Below W.heap.size W wB := HBA.trans (hbB.mono HBA.size)) | (go_at_call 17; (with_reducible refine (same_any _ _ L1 _ (HR1.out.below lineC_lasts HBB) (HR2.out.below lineC_lasts HBB)).mono ?_); rintro e wC ⟨rfl, m1, rfl⟩; have HBC : Below W.heap.size W (wB.drewN m1) := below_drewN HBB m1) | (go_at_call 16; (with_reducible refine (fault_any x2 y2 z2 _).mono ?_); rintro e wD ⟨rfl, hbD⟩; have HBD : Below W.heap.size W wD := HBC.trans (hbD.mono HBC.size)) | (go_at_call 17; (with_reducible refine (same_any _ _ L2 _ (HR3.out.below lineC_lasts HBD) (HR4.out.below lineC_lasts HBD)).mono ?_); rintro e wE ⟨rfl, m2, rfl⟩; have HBF : Below W.heap.size W (wD.drewN m2) := below_drewN HBD m2))
  all_goals
    go_wp2_with fail
    go_ret
    exact ⟨rfl, HBE.out.trans (HBF.mono HBE.out.size)⟩
theorem linesReads_walk (a0 : ByteArray) (u0 : a0.size ≤ 1048576) (w : World) :
    Calls Try.prog 4 #[.string a0] w fun e w' => e = .returned (.bool true) ∧ Below w.heap.size w w' :=
  linesReads_list a0.data.toList w (by have : a0.data.toList.length = a0.size := by rw [Array.length_toList]; rfl
                                       omega)
end Go.Proofs.Ytfhicmjfifpjkaa
