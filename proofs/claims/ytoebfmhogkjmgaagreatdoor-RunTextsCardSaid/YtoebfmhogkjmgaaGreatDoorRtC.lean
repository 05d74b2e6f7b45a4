/- A run's outcome, as a text. -/
import Derived.Test.YtoebfmhogkjmgaaGreatDoorRtB
import Derived.Lib.LaidTab
import Derived.Deep.RegionHeld3
namespace Go.Proofs.YtoebfmhogkjmgaaGreatDoor
open Go.RowKit
set_option linter.unusedVariables false
theorem tab_below {name : String} {k : IntKind} {zs : List Int} {w w' : World} (h : Lib.TabIs Tryz.prog w name k zs) (hb : Below w.heap.size w w') : Lib.TabIs Tryz.prog w' name k zs := by
  unfold Lib.TabIs World.var? at h ⊢
  cases hg : Tryz.prog.globalNamed name with
  | none => rw [hg] at h; cases h
  | some g =>
    rw [hg] at h
    simp only [Option.bind_some] at h ⊢
    have hlt : g < w.heap.size := by
      rcases Nat.lt_or_ge g w.heap.size with hl | hl
      · exact hl
      · rw [Array.getElem?_eq_none hl] at h; cases h
    rw [hb.block g hlt]; exact h
theorem below_drewN' {B : Nat} {w w' : World} (h : Below B w w') (m : Nat) : Below B w (w'.drewN m) := ⟨h.os, h.tape, h.output, h.size, h.block⟩
theorem below_osg (w : World) (os : Array Obj) : Below w.heap.size w (Go.Sort.grow w os) :=
  ⟨rfl, rfl, rfl, by simp [Go.Sort.grow], fun k hk => by
    simp only [Go.Sort.grow]
    rw [Array.getElem?_append_left hk]⟩
theorem itoa_any (n : Int) (h0 : -9223372036854775808 ≤ n) (h1 : n ≤ 9223372036854775807) (w : World) (ht : Lib.TabIs Tryz.prog w "internal/strconv.uint64pow10" .u64 Lib.pow10Tab) :
    Calls Tryz.prog 11 #[.int .i64 n] w fun e w' => e = .returned (.string ⟨(Lib.itoa n).toArray⟩) ∧ Below w.heap.size w w' := by
  refine (Tryz.strconv_Itoa n h0 h1 w ht).mono ?_
  rintro e w' ⟨rfl, k, os, rfl⟩
  exact ⟨rfl, (below_drewN' (Below.refl _ _) k).trans (show Below w.heap.size _ _ from below_osg (w.drewN k) os)⟩
/-- one line of words, in memory of the call's own -/
theorem line_row {w : World} {B b : Nat} (ws : List (List UInt8)) (hne : 0 < ws.length) (hB : w.cell? ⟨B, 0, none⟩ = some (.slice (some ⟨b, 0, none⟩) ws.length ws.length)) (hl : B < w.heap.size) (hb : b < w.heap.size) (hc : ∀ i, i < ws.length → w.cell? ⟨b, i, none⟩ = (strVals ws)[i]?) (hs : ws.length ≤ 100) (hx : ∀ l ∈ ws, l.length ≤ 100) :
    RowOf 1 StrsC w (.slice (some ⟨B, 0, none⟩) 1 1) [ws] := by
  have hlen : (strVals ws).length = ws.length := by simp [strVals]
  have key : StrsC w [.slice (some ⟨b, 0, none⟩) ws.length ws.length] ws := by
    refine ⟨_, rfl, .inr ⟨b, 0, ws.length, by rw [hlen], by rw [hlen]; omega, by unfold maxLen; omega, hb, fun i hi => ?_⟩, fun l hl => ?_⟩
    · rw [hlen] at hi
      rw [Nat.zero_add]; exact hc i hi
    · have := hx l hl
      unfold maxLen; omega
  refine .inr ⟨B, 0, 1, rfl, by simp, by unfold maxLen; omega, hl, fun i hi => ?_⟩
  obtain rfl : i = 0 := by simpa using hi
  refine ⟨_, ⟨rfl, fun j hj => ?_⟩, key⟩
  obtain rfl : j = 0 := by omega
  simpa using hB
/-- the cells of an outcome -/
def outC (tag inp code ln col st : Int) (lk wy au : ByteArray) : Array Value := #[.int .i64 tag, .int .i64 inp, .int .i64 code, .int .i64 ln, .int .i64 col, .int .i64 st, .string lk, .string wy, .string au]
def wordsT (tag inp code ln col st : Int) : List (List UInt8) :=
  if tag = 1 then [[109, 97, 108, 102, 111, 114, 109, 101, 100], Lib.itoa inp, Lib.itoa code, Lib.itoa ln, Lib.itoa col]
  else if tag = 3 then [[115, 111, 108, 118, 101, 100], Lib.itoa st]
  else if tag = 4 then [[110, 111, 110, 101], Lib.itoa st]
  else [[108, 105, 109, 105, 116], Lib.itoa st]
/-- its text -/
def textT (tag inp code ln col st : Int) (lk wy au : ByteArray) : ByteArray := (((⟨(lineW (wordsT tag inp code ln col st) ++ [10]).toArray⟩ : ByteArray) ++ lk) ++ wy) ++ au
def I64 (n : Int) : Prop := -9223372036854775808 ≤ n ∧ n ≤ 9223372036854775807
theorem lwrite1 (B : Nat) (ws : List (List UInt8)) (w : World) (h : RowOf 1 StrsC w (.slice (some ⟨B, 0, none⟩) 1 1) [ws]) (s : List UInt8) (hs : lineW ws ++ [10] = s) (hl : s.length ≤ 1000) (hw : ws.length ≤ 100) :
    Calls Tryz.prog 12 #[.slice (some ⟨B, 0, none⟩) 1 1] w fun e w' => e = .returned (.string ⟨s.toArray⟩) ∧ Below w.heap.size w w' :=
  lwrite_any (some ⟨B, 0, none⟩) 1 [ws] w h s (Lib.hid (by simpa [writeL] using hs)) (by omega) (fun x hx => (List.mem_singleton.1 hx) ▸ (Nat.le_trans hw (by decide)))
theorem line_new {W w' : World} {b : Nat} (ws : List (List UInt8)) (hne : 0 < ws.length) (v : VarAt W b (strVals ws)) (h : Below W.heap.size W w') (T : TypeId) (hs : ws.length ≤ 100) (hx : ∀ l ∈ ws, l.length ≤ 100) :
    RowOf 1 StrsC (w'.alloc (.cells #[.slice (some ⟨b, 0, none⟩) ws.length ws.length] T)) (.slice (some ⟨w'.heap.size, 0, none⟩) 1 1) [ws] := by
  have v1 := (v.after h).alloc (.cells #[.slice (some ⟨b, 0, none⟩) ws.length ws.length] T)
  refine line_row (b := b) ws hne ?_ (by simp) v1.lt (fun i hi => v1.cell i (by rw [strVals_length]; exact hi)) hs hx
  rw [World.cell?_alloc_at _ _ _ _ rfl]; simp
theorem text_other (tag inp code ln col st : Int) (hst : I64 st) (h1 : ¬ tag = 1) (h3 : ¬ tag = 3) (h4 : ¬ tag = 4) (lk wy au : ByteArray) (k1 : lk.size ≤ 140737488355328) (k2 : wy.size ≤ 140737488355328) (k3 : au.size ≤ 140737488355328) (w : World) (ht : Lib.TabIs Tryz.prog w "internal/strconv.uint64pow10" .u64 Lib.pow10Tab) :
    Calls Tryz.prog 6 #[.agg (outC tag inp code ln col st lk wy au)] w fun e w' => e = .returned (.string (textT tag inp code ln col st lk wy au)) ∧ Below w.heap.size w w' := by
  have hd1 : (tag == 1) = false := by simpa using h1
  have hd3 : (tag == 3) = false := by simpa using h3
  have hd4 : (tag == 4) = false := by simpa using h4
  have HT := Lib.hid ht
  clear ht
  unfold outC
  go_enter Tryz.func6, Tryz.ntmps6
  go_wp2_with fail
  have v0 := varAt_new w #[.int .i64 tag, .int .i64 inp, .int .i64 code, .int .i64 ln, .int .i64 col, .int .i64 st, .string lk, .string wy, .string au] 26 _ rfl
  have b0 : Below w.heap.size w (w.alloc (.cells #[.int .i64 tag, .int .i64 inp, .int .i64 code, .int .i64 ln, .int .i64 col, .int .i64 st, .string lk, .string wy, .string au] 26)) := (Below.refl _ _).alloc (Nat.le_refl _) _
  refine (itoa_any st hst.1 hst.2 _ (tab_below HT.out b0)).mono ?_
  rintro e w1 ⟨rfl, hb1⟩
  have v1 := v0.after hb1
  have b1 := b0.trans (hb1.mono b0.size)
  have c0 : ∀ o, (w1.alloc o).cell? ⟨w.heap.size, 0, none⟩ = some (.int .i64 tag) := fun o => (v1.alloc o).get 0 rfl
  have hil := itoa_len st hst.1 hst.2
  obtain ⟨I, hI⟩ : ∃ I, Lib.itoa st = I := ⟨_, rfl⟩
  rw [hI] at hil ⊢
  have HI := Lib.hid hI
  clear hI
  go_wp2_with fail
  have v2 := v1.alloc (.cells #[.string ⟨#[108, 105, 109, 105, 116]⟩, .string ⟨I.toArray⟩] 9)
  have v3 := varAt_new w1 #[.string ⟨#[108, 105, 109, 105, 116]⟩, .string ⟨I.toArray⟩] 9 _ rfl
  have b2 : Below w.heap.size w (w1.alloc (.cells #[.string ⟨#[108, 105, 109, 105, 116]⟩, .string ⟨I.toArray⟩] 9)) := b1.alloc b1.size _
  obtain ⟨W, hW⟩ : ∃ W, w1.alloc (.cells #[.string ⟨#[108, 105, 109, 105, 116]⟩, .string ⟨I.toArray⟩] 9) = W := ⟨_, rfl⟩
  rw [hW] at v2 v3 b2 ⊢
  obtain ⟨B1, hB1⟩ : ∃ B, w1.heap.size = B := ⟨_, rfl⟩
  rw [hB1] at v3 ⊢
  obtain ⟨B0, hB0⟩ : ∃ B, w.heap.size = B := ⟨_, rfl⟩
  rw [hB0] at v2 ⊢
  clear hW hB1 hb1 v0 v1 b0 b1 c0
  have SK : Hid (∀ w', Below W.heap.size W w' → w'.cell? ⟨B0, 6, none⟩ = some (.string lk) ∧ w'.cell? ⟨B0, 7, none⟩ = some (.string wy) ∧ w'.cell? ⟨B0, 8, none⟩ = some (.string au)) := Lib.hid (fun w' h => ⟨(v2.after h).get 6 rfl, (v2.after h).get 7 rfl, (v2.after h).get 8 rfl⟩)
  have HR : Hid (∀ w', Below W.heap.size W w' → RowOf 1 StrsC (w'.alloc (.cells #[.slice (some ⟨B1, 0, none⟩) 2 2] 32)) (.slice (some ⟨w'.heap.size, 0, none⟩) 1 1) [[[108, 105, 109, 105, 116], I]]) := Lib.hid (fun w' h =>
    line_new [[108, 105, 109, 105, 116], I] (by simp) v3 h _ (by simp) (fun l hl => by
      rcases List.mem_cons.1 hl with rfl | hl
      · simp
      · obtain rfl : l = I := by simpa using hl
        omega))
  have HBE := Lib.hid b2
  clear v2 v3 b2
  obtain ⟨s, hs⟩ : ∃ s, lineW [[108, 105, 109, 105, 116], I] ++ [10] = s := ⟨_, rfl⟩
  have hsl : s.length ≤ 100 := by rw [← hs]; simp [lineW]; omega
  have HS := Lib.hid hs
  clear hs
  have HB0 : Below W.heap.size W W.drew := Below.drew (Below.refl _ _)
  have g1 : ¬ 9223372036854775807 < s.length + lk.size := by omega
  have g2 : ¬ 9223372036854775807 < s.length + lk.size + wy.size := by omega
  have g3 : ¬ 9223372036854775807 < s.length + lk.size + wy.size + au.size := by omega
  go_region_held3 (fun w' => w'.cell? ⟨B0, 6, none⟩ = some (.string lk) ∧ w'.cell? ⟨B0, 7, none⟩ = some (.string wy) ∧ w'.cell? ⟨B0, 8, none⟩ = some (.string au)) (first | exact SK.out _ HBA | exact SK.out _ (Below.drew ((Below.refl _ _).alloc (Nat.le_refl _) _)) | exact SK.out _ HB0) ((go_at_call 12; refine (lwrite1 _ _ _ ((HR.out _ (Below.refl _ _)).below strsC_lasts (Below.drew (Below.refl _ _))) s HS.out (by omega) (by simp)).mono ?_; rintro e wA ⟨rfl, hbA⟩; have HBA : Below W.heap.size W wA := (Below.drew ((Below.refl _ _).alloc (Nat.le_refl _) _)).trans (hbA.mono (by simp))))
  all_goals
    go_wp2_with fail
    go_ret
    refine ⟨?_, HBE.out.trans (HBA.mono HBE.out.size)⟩
    unfold textT wordsT
    rw [if_neg h1, if_neg h3, if_neg h4, HI.out, HS.out]
    rfl
theorem text_three (inp code ln col st : Int) (hst : I64 st) (lk wy au : ByteArray) (k1 : lk.size ≤ 140737488355328) (k2 : wy.size ≤ 140737488355328) (k3 : au.size ≤ 140737488355328) (w : World) (ht : Lib.TabIs Tryz.prog w "internal/strconv.uint64pow10" .u64 Lib.pow10Tab) :
    Calls Tryz.prog 6 #[.agg (outC 3 inp code ln col st lk wy au)] w fun e w' => e = .returned (.string (textT 3 inp code ln col st lk wy au)) ∧ Below w.heap.size w w' := by
  have HT := Lib.hid ht
  clear ht
  unfold outC
  go_enter Tryz.func6, Tryz.ntmps6
  go_wp2_with fail
  have v0 := varAt_new w #[.int .i64 3, .int .i64 inp, .int .i64 code, .int .i64 ln, .int .i64 col, .int .i64 st, .string lk, .string wy, .string au] 26 _ rfl
  have b0 : Below w.heap.size w (w.alloc (.cells #[.int .i64 3, .int .i64 inp, .int .i64 code, .int .i64 ln, .int .i64 col, .int .i64 st, .string lk, .string wy, .string au] 26)) := (Below.refl _ _).alloc (Nat.le_refl _) _
  refine (itoa_any st hst.1 hst.2 _ (tab_below HT.out b0)).mono ?_
  rintro e w1 ⟨rfl, hb1⟩
  have v1 := v0.after hb1
  have b1 := b0.trans (hb1.mono b0.size)
  have c0 : ∀ o, (w1.alloc o).cell? ⟨w.heap.size, 0, none⟩ = some (.int .i64 3) := fun o => (v1.alloc o).get 0 rfl
  have hil := itoa_len st hst.1 hst.2
  obtain ⟨I, hI⟩ : ∃ I, Lib.itoa st = I := ⟨_, rfl⟩
  rw [hI] at hil ⊢
  have HI := Lib.hid hI
  clear hI
  go_wp2_with fail
  have v2 := v1.alloc (.cells #[.string ⟨#[115, 111, 108, 118, 101, 100]⟩, .string ⟨I.toArray⟩] 9)
  have v3 := varAt_new w1 #[.string ⟨#[115, 111, 108, 118, 101, 100]⟩, .string ⟨I.toArray⟩] 9 _ rfl
  have b2 : Below w.heap.size w (w1.alloc (.cells #[.string ⟨#[115, 111, 108, 118, 101, 100]⟩, .string ⟨I.toArray⟩] 9)) := b1.alloc b1.size _
  obtain ⟨W, hW⟩ : ∃ W, w1.alloc (.cells #[.string ⟨#[115, 111, 108, 118, 101, 100]⟩, .string ⟨I.toArray⟩] 9) = W := ⟨_, rfl⟩
  rw [hW] at v2 v3 b2 ⊢
  obtain ⟨B1, hB1⟩ : ∃ B, w1.heap.size = B := ⟨_, rfl⟩
  rw [hB1] at v3 ⊢
  obtain ⟨B0, hB0⟩ : ∃ B, w.heap.size = B := ⟨_, rfl⟩
  rw [hB0] at v2 ⊢
  clear hW hB1 hb1 v0 v1 b0 b1 c0
  have SK : Hid (∀ w', Below W.heap.size W w' → w'.cell? ⟨B0, 6, none⟩ = some (.string lk) ∧ w'.cell? ⟨B0, 7, none⟩ = some (.string wy) ∧ w'.cell? ⟨B0, 8, none⟩ = some (.string au)) := Lib.hid (fun w' h => ⟨(v2.after h).get 6 rfl, (v2.after h).get 7 rfl, (v2.after h).get 8 rfl⟩)
  have HR : Hid (∀ w', Below W.heap.size W w' → RowOf 1 StrsC (w'.alloc (.cells #[.slice (some ⟨B1, 0, none⟩) 2 2] 32)) (.slice (some ⟨w'.heap.size, 0, none⟩) 1 1) [[[115, 111, 108, 118, 101, 100], I]]) := Lib.hid (fun w' h =>
    line_new [[115, 111, 108, 118, 101, 100], I] (by simp) v3 h _ (by simp) (fun l hl => by
      rcases List.mem_cons.1 hl with rfl | hl
      · simp
      · obtain rfl : l = I := by simpa using hl
        omega))
  have HBE := Lib.hid b2
  clear v2 v3 b2
  obtain ⟨s, hs⟩ : ∃ s, lineW [[115, 111, 108, 118, 101, 100], I] ++ [10] = s := ⟨_, rfl⟩
  have hsl : s.length ≤ 100 := by rw [← hs]; simp [lineW]; omega
  have HS := Lib.hid hs
  clear hs
  have HB0 : Below W.heap.size W W.drew := Below.drew (Below.refl _ _)
  have g1 : ¬ 9223372036854775807 < s.length + lk.size := by omega
  have g2 : ¬ 9223372036854775807 < s.length + lk.size + wy.size := by omega
  have g3 : ¬ 9223372036854775807 < s.length + lk.size + wy.size + au.size := by omega
  go_region_held3 (fun w' => w'.cell? ⟨B0, 6, none⟩ = some (.string lk) ∧ w'.cell? ⟨B0, 7, none⟩ = some (.string wy) ∧ w'.cell? ⟨B0, 8, none⟩ = some (.string au)) (first | exact SK.out _ HBA | exact SK.out _ (Below.drew ((Below.refl _ _).alloc (Nat.le_refl _) _)) | exact SK.out _ HB0) ((go_at_call 12; refine (lwrite1 _ _ _ ((HR.out _ (Below.refl _ _)).below strsC_lasts (Below.drew (Below.refl _ _))) s HS.out (by omega) (by simp)).mono ?_; rintro e wA ⟨rfl, hbA⟩; have HBA : Below W.heap.size W wA := (Below.drew ((Below.refl _ _).alloc (Nat.le_refl _) _)).trans (hbA.mono (by simp))))
  all_goals
    go_wp2_with fail
    go_ret
    refine ⟨?_, HBE.out.trans (HBA.mono HBE.out.size)⟩
    unfold textT wordsT
    rw [if_neg (by decide), if_pos rfl, HI.out, HS.out]
    rfl
theorem text_four (inp code ln col st : Int) (hst : I64 st) (lk wy au : ByteArray) (k1 : lk.size ≤ 140737488355328) (k2 : wy.size ≤ 140737488355328) (k3 : au.size ≤ 140737488355328) (w : World) (ht : Lib.TabIs Tryz.prog w "internal/strconv.uint64pow10" .u64 Lib.pow10Tab) :
    Calls Tryz.prog 6 #[.agg (outC 4 inp code ln col st lk wy au)] w fun e w' => e = .returned (.string (textT 4 inp code ln col st lk wy au)) ∧ Below w.heap.size w w' := by
  have HT := Lib.hid ht
  clear ht
  unfold outC
  go_enter Tryz.func6, Tryz.ntmps6
  go_wp2_with fail
  have v0 := varAt_new w #[.int .i64 4, .int .i64 inp, .int .i64 code, .int .i64 ln, .int .i64 col, .int .i64 st, .string lk, .string wy, .string au] 26 _ rfl
  have b0 : Below w.heap.size w (w.alloc (.cells #[.int .i64 4, .int .i64 inp, .int .i64 code, .int .i64 ln, .int .i64 col, .int .i64 st, .string lk, .string wy, .string au] 26)) := (Below.refl _ _).alloc (Nat.le_refl _) _
  refine (itoa_any st hst.1 hst.2 _ (tab_below HT.out b0)).mono ?_
  rintro e w1 ⟨rfl, hb1⟩
  have v1 := v0.after hb1
  have b1 := b0.trans (hb1.mono b0.size)
  have c0 : ∀ o, (w1.alloc o).cell? ⟨w.heap.size, 0, none⟩ = some (.int .i64 4) := fun o => (v1.alloc o).get 0 rfl
  have hil := itoa_len st hst.1 hst.2
  obtain ⟨I, hI⟩ : ∃ I, Lib.itoa st = I := ⟨_, rfl⟩
  rw [hI] at hil ⊢
  have HI := Lib.hid hI
  clear hI
  go_wp2_with fail
  have v2 := v1.alloc (.cells #[.string ⟨#[110, 111, 110, 101]⟩, .string ⟨I.toArray⟩] 9)
  have v3 := varAt_new w1 #[.string ⟨#[110, 111, 110, 101]⟩, .string ⟨I.toArray⟩] 9 _ rfl
  have b2 : Below w.heap.size w (w1.alloc (.cells #[.string ⟨#[110, 111, 110, 101]⟩, .string ⟨I.toArray⟩] 9)) := b1.alloc b1.size _
  obtain ⟨W, hW⟩ : ∃ W, w1.alloc (.cells #[.string ⟨#[110, 111, 110, 101]⟩, .string ⟨I.toArray⟩] 9) = W := ⟨_, rfl⟩
  rw [hW] at v2 v3 b2 ⊢
  obtain ⟨B1, hB1⟩ : ∃ B, w1.heap.size = B := ⟨_, rfl⟩
  rw [hB1] at v3 ⊢
  obtain ⟨B0, hB0⟩ : ∃ B, w.heap.size = B := ⟨_, rfl⟩
  rw [hB0] at v2 ⊢
  clear hW hB1 hb1 v0 v1 b0 b1 c0
  have SK : Hid (∀ w', Below W.heap.size W w' → w'.cell? ⟨B0, 6, none⟩ = some (.string lk) ∧ w'.cell? ⟨B0, 7, none⟩ = some (.string wy) ∧ w'.cell? ⟨B0, 8, none⟩ = some (.string au)) := Lib.hid (fun w' h => ⟨(v2.after h).get 6 rfl, (v2.after h).get 7 rfl, (v2.after h).get 8 rfl⟩)
  have HR : Hid (∀ w', Below W.heap.size W w' → RowOf 1 StrsC (w'.alloc (.cells #[.slice (some ⟨B1, 0, none⟩) 2 2] 32)) (.slice (some ⟨w'.heap.size, 0, none⟩) 1 1) [[[110, 111, 110, 101], I]]) := Lib.hid (fun w' h =>
    line_new [[110, 111, 110, 101], I] (by simp) v3 h _ (by simp) (fun l hl => by
      rcases List.mem_cons.1 hl with rfl | hl
      · simp
      · obtain rfl : l = I := by simpa using hl
        omega))
  have HBE := Lib.hid b2
  clear v2 v3 b2
  obtain ⟨s, hs⟩ : ∃ s, lineW [[110, 111, 110, 101], I] ++ [10] = s := ⟨_, rfl⟩
  have hsl : s.length ≤ 100 := by rw [← hs]; simp [lineW]; omega
  have HS := Lib.hid hs
  clear hs
  have HB0 : Below W.heap.size W W.drew := Below.drew (Below.refl _ _)
  have g1 : ¬ 9223372036854775807 < s.length + lk.size := by omega
  have g2 : ¬ 9223372036854775807 < s.length + lk.size + wy.size := by omega
  have g3 : ¬ 9223372036854775807 < s.length + lk.size + wy.size + au.size := by omega
  go_region_held3 (fun w' => w'.cell? ⟨B0, 6, none⟩ = some (.string lk) ∧ w'.cell? ⟨B0, 7, none⟩ = some (.string wy) ∧ w'.cell? ⟨B0, 8, none⟩ = some (.string au)) (first | exact SK.out _ HBA | exact SK.out _ (Below.drew ((Below.refl _ _).alloc (Nat.le_refl _) _)) | exact SK.out _ HB0) ((go_at_call 12; refine (lwrite1 _ _ _ ((HR.out _ (Below.refl _ _)).below strsC_lasts (Below.drew (Below.refl _ _))) s HS.out (by omega) (by simp)).mono ?_; rintro e wA ⟨rfl, hbA⟩; have HBA : Below W.heap.size W wA := (Below.drew ((Below.refl _ _).alloc (Nat.le_refl _) _)).trans (hbA.mono (by simp))))
  all_goals
    go_wp2_with fail
    go_ret
    refine ⟨?_, HBE.out.trans (HBA.mono HBE.out.size)⟩
    unfold textT wordsT
    rw [if_neg (by decide), if_neg (by decide), if_pos rfl, HI.out, HS.out]
    rfl
end Go.Proofs.YtoebfmhogkjmgaaGreatDoor
