/- The contracts of lines.Read, ReadAny, of the reference's Read; the law's read. -/
import Derived.Test.YtfhicmjfifpjkaaLinF
import Derived.Test.YtfhicmjfifpjkaaLinG
namespace Go.Proofs.Ytfhicmjfifpjkaa
open Go.RowKit
set_option linter.unusedVariables false
def readTop (l : List UInt8) : RRes := if 20000 < l.length then .bad 2 0 0 else readL 800 l 1 []
set_option maxHeartbeats 800000 in
theorem top_read (l : List UInt8) (w : World) (res : RRes) (HRES : Hid (readTop l = res)) (hl : l.length ≤ 9223372036854775807) :
    Calls Try.prog 11 #[.string ⟨l.toArray⟩] w (ReadPost w res) := by
  by_cases hb : 20000 < l.length
  · have hd : decide ((20000 : Int) < (l.length : Int)) = true := decide_eq_true (by omega)
    have hr : res = .bad 2 0 0 := by rw [← HRES.out]; unfold readTop; rw [if_pos hb]
    have HR := Lib.hid hr
    clear hr hb HRES
    go_enter Try.func11, Try.ntmps11
    go_wp2_with fail
    refine bodyPost_ret (v := .tuple #[.slice none 0 0, .agg #[.int .i64 2, .int .i64 0, .int .i64 0]]) (by simp [results, Try.results11, go_sem]) rfl (read_bad HR.out rfl ?_)
    exact (Below.refl _ _).alloc (Nat.le_refl _) _
  · have hd : decide ((20000 : Int) < (l.length : Int)) = false := decide_eq_false (by omega)
    have HR : Hid (readL 800 l 1 [] = res) := by have := HRES.out; unfold readTop at this; rw [if_neg hb] at this; exact Lib.hid this
    have hb' : l.length ≤ 1099511627776 := by omega
    clear hb HRES
    cases res with
    | bad c ln col =>
      go_enter Try.func11, Try.ntmps11
      go_wp2_with fail
      refine (read_list l 800 _ _ HR hb' (by omega)).mono ?_
      rintro e w1 ⟨rfl, hb1⟩
      obtain ⟨hc, hf⟩ : (∀ i, i < 3 → w1.cell? ⟨w.heap.size, i, none⟩ = some (.int .i64 0)) ∧ ∀ i, w1.frozen? ⟨w.heap.size, i, none⟩ = false := by
        have v := (varAt_new w #[.int .i64 0, .int .i64 0, .int .i64 0] 30 _ rfl).after hb1
        refine ⟨fun i hi => ?_, v.free⟩
        match i, hi with
        | 0, _ => exact v.get 0 rfl
        | 1, _ => exact v.get 1 rfl
        | 2, _ => exact v.get 2 rfl
      have c0 := hc 0 (by omega)
      have c1 := hc 1 (by omega)
      have c2 := hc 2 (by omega)
      clear hc
      go_wp2_with fail
      refine bodyPost_ret (v := .tuple #[.slice none 0 0, .agg #[.int .i64 c, .int .i64 ln, .int .i64 col]]) (by simp [results, Try.results11, go_sem, c0, c1, c2]) rfl ⟨rfl, ?_⟩
      exact ((((((Below.refl _ _).alloc (Nat.le_refl _) _).trans (hb1.mono (by simp))).setCell (Nat.le_refl _) _).setCell (Nat.le_refl _) _).setCell (Nat.le_refl _) _)
    | ok L =>
      go_enter Try.func11, Try.ntmps11
      go_wp2_with fail
      refine (read_list l 800 _ _ HR hb' (by omega)).mono ?_
      rintro e w1 ⟨v, rfl, hrow, hb1⟩
      obtain ⟨hc, hf⟩ : (∀ i, i < 3 → w1.cell? ⟨w.heap.size, i, none⟩ = some (.int .i64 0)) ∧ ∀ i, w1.frozen? ⟨w.heap.size, i, none⟩ = false := by
        have v := (varAt_new w #[.int .i64 0, .int .i64 0, .int .i64 0] 30 _ rfl).after hb1
        refine ⟨fun i hi => ?_, v.free⟩
        match i, hi with
        | 0, _ => exact v.get 0 rfl
        | 1, _ => exact v.get 1 rfl
        | 2, _ => exact v.get 2 rfl
      have c0 := hc 0 (by omega)
      have c1 := hc 1 (by omega)
      have c2 := hc 2 (by omega)
      have HROW := Lib.hid hrow
      obtain ⟨va, vc, rfl⟩ := hrow.here.shape
      clear hc hrow
      go_wp2_with fail
      refine bodyPost_ret (v := .tuple #[.slice va L.length vc, .agg #[.int .i64 0, .int .i64 0, .int .i64 0]]) (by simp [results, Try.results11, go_sem, c0, c1, c2]) rfl ⟨_, rfl, ?_, ?_⟩
      · have hF : w.heap.size < (w.alloc (.cells #[.int .i64 0, .int .i64 0, .int .i64 0] 30)).heap.size := by simp
        exact HROW.out.near (by simp) (((near_setCell _ _ _ hF).trans (near_setCell _ _ _ hF)).trans (near_setCell _ _ _ hF))
      · exact ((((((Below.refl _ _).alloc (Nat.le_refl _) _).trans (hb1.mono (by simp))).setCell (Nat.le_refl _) _).setCell (Nat.le_refl _) _).setCell (Nat.le_refl _) _)
set_option maxHeartbeats 800000 in
theorem rtop_read (l : List UInt8) (w : World) (res : RRes) (HRES : Hid (readTop l = res)) (hl : l.length ≤ 9223372036854775807) :
    Calls Try.prog 13 #[.string ⟨l.toArray⟩] w (ReadPost w res) := by
  by_cases hb : 20000 < l.length
  · have hd : decide ((20000 : Int) < (l.length : Int)) = true := decide_eq_true (by omega)
    have hr : res = .bad 2 0 0 := by rw [← HRES.out]; unfold readTop; rw [if_pos hb]
    have HR := Lib.hid hr
    clear hr hb HRES
    go_enter Try.func13, Try.ntmps13
    go_wp2_with fail
    refine bodyPost_ret (v := .tuple #[.slice none 0 0, .agg #[.int .i64 2, .int .i64 0, .int .i64 0]]) (by simp [results, Try.results13, go_sem]) rfl (read_bad HR.out rfl ?_)
    exact (Below.refl _ _).alloc (Nat.le_refl _) _
  · have hd : decide ((20000 : Int) < (l.length : Int)) = false := decide_eq_false (by omega)
    have HR : Hid (readL 800 l 1 [] = res) := by have := HRES.out; unfold readTop at this; rw [if_neg hb] at this; exact Lib.hid this
    have hb' : l.length ≤ 1099511627776 := by omega
    clear hb HRES
    cases res with
    | bad c ln col =>
      go_enter Try.func13, Try.ntmps13
      go_wp2_with fail
      refine (rread_list l 800 _ _ HR hb' (by omega)).mono ?_
      rintro e w1 ⟨rfl, hb1⟩
      obtain ⟨hc, hf⟩ : (∀ i, i < 3 → w1.cell? ⟨w.heap.size, i, none⟩ = some (.int .i64 0)) ∧ ∀ i, w1.frozen? ⟨w.heap.size, i, none⟩ = false := by
        have v := (varAt_new w #[.int .i64 0, .int .i64 0, .int .i64 0] 39 _ rfl).after hb1
        refine ⟨fun i hi => ?_, v.free⟩
        match i, hi with
        | 0, _ => exact v.get 0 rfl
        | 1, _ => exact v.get 1 rfl
        | 2, _ => exact v.get 2 rfl
      have c0 := hc 0 (by omega)
      have c1 := hc 1 (by omega)
      have c2 := hc 2 (by omega)
      clear hc
      go_wp2_with fail
      refine bodyPost_ret (v := .tuple #[.slice none 0 0, .agg #[.int .i64 c, .int .i64 ln, .int .i64 col]]) (by simp [results, Try.results13, go_sem, c0, c1, c2]) rfl ⟨rfl, ?_⟩
      exact ((((((Below.refl _ _).alloc (Nat.le_refl _) _).trans (hb1.mono (by simp))).setCell (Nat.le_refl _) _).setCell (Nat.le_refl _) _).setCell (Nat.le_refl _) _)
    | ok L =>
      go_enter Try.func13, Try.ntmps13
      go_wp2_with fail
      refine (rread_list l 800 _ _ HR hb' (by omega)).mono ?_
      rintro e w1 ⟨v, rfl, hrow, hb1⟩
      obtain ⟨hc, hf⟩ : (∀ i, i < 3 → w1.cell? ⟨w.heap.size, i, none⟩ = some (.int .i64 0)) ∧ ∀ i, w1.frozen? ⟨w.heap.size, i, none⟩ = false := by
        have v := (varAt_new w #[.int .i64 0, .int .i64 0, .int .i64 0] 39 _ rfl).after hb1
        refine ⟨fun i hi => ?_, v.free⟩
        match i, hi with
        | 0, _ => exact v.get 0 rfl
        | 1, _ => exact v.get 1 rfl
        | 2, _ => exact v.get 2 rfl
      have c0 := hc 0 (by omega)
      have c1 := hc 1 (by omega)
      have c2 := hc 2 (by omega)
      have HROW := Lib.hid hrow
      obtain ⟨va, vc, rfl⟩ := hrow.here.shape
      clear hc hrow
      go_wp2_with fail
      refine bodyPost_ret (v := .tuple #[.slice va L.length vc, .agg #[.int .i64 0, .int .i64 0, .int .i64 0]]) (by simp [results, Try.results13, go_sem, c0, c1, c2]) rfl ⟨_, rfl, ?_, ?_⟩
      · have hF : w.heap.size < (w.alloc (.cells #[.int .i64 0, .int .i64 0, .int .i64 0] 39)).heap.size := by simp
        exact HROW.out.near (by simp) (((near_setCell _ _ _ hF).trans (near_setCell _ _ _ hF)).trans (near_setCell _ _ _ hF))
      · exact ((((((Below.refl _ _).alloc (Nat.le_refl _) _).trans (hb1.mono (by simp))).setCell (Nat.le_refl _) _).setCell (Nat.le_refl _) _).setCell (Nat.le_refl _) _)
set_option maxHeartbeats 800000 in
theorem any_read (l : List UInt8) (w : World) (res : RRes) (HR : Hid (readL (l.length + 1) l 1 [] = res)) (hb' : l.length ≤ 1099511627776) :
    Calls Try.prog 14 #[.string ⟨l.toArray⟩] w (ReadPost w res) := by
  cases res with
  | bad c ln col =>
    go_enter Try.func14, Try.ntmps14
    go_wp2_with fail
    refine (read_list l (l.length + 1) _ _ HR hb' (by omega)).mono ?_
    rintro e w1 ⟨rfl, hb1⟩
    obtain ⟨hc, hf⟩ : (∀ i, i < 3 → w1.cell? ⟨w.heap.size, i, none⟩ = some (.int .i64 0)) ∧ ∀ i, w1.frozen? ⟨w.heap.size, i, none⟩ = false := by
      have v := (varAt_new w #[.int .i64 0, .int .i64 0, .int .i64 0] 30 _ rfl).after hb1
      refine ⟨fun i hi => ?_, v.free⟩
      match i, hi with
      | 0, _ => exact v.get 0 rfl
      | 1, _ => exact v.get 1 rfl
      | 2, _ => exact v.get 2 rfl
    have c0 := hc 0 (by omega)
    have c1 := hc 1 (by omega)
    have c2 := hc 2 (by omega)
    clear hc
    go_wp2_with fail
    refine bodyPost_ret (v := .tuple #[.slice none 0 0, .agg #[.int .i64 c, .int .i64 ln, .int .i64 col]]) (by simp [results, Try.results14, go_sem, c0, c1, c2]) rfl ⟨rfl, ?_⟩
    exact ((((((Below.refl _ _).alloc (Nat.le_refl _) _).trans (hb1.mono (by simp))).setCell (Nat.le_refl _) _).setCell (Nat.le_refl _) _).setCell (Nat.le_refl _) _)
  | ok L =>
    go_enter Try.func14, Try.ntmps14
    go_wp2_with fail
    refine (read_list l (l.length + 1) _ _ HR hb' (by omega)).mono ?_
    rintro e w1 ⟨v, rfl, hrow, hb1⟩
    obtain ⟨hc, hf⟩ : (∀ i, i < 3 → w1.cell? ⟨w.heap.size, i, none⟩ = some (.int .i64 0)) ∧ ∀ i, w1.frozen? ⟨w.heap.size, i, none⟩ = false := by
      have v := (varAt_new w #[.int .i64 0, .int .i64 0, .int .i64 0] 30 _ rfl).after hb1
      refine ⟨fun i hi => ?_, v.free⟩
      match i, hi with
      | 0, _ => exact v.get 0 rfl
      | 1, _ => exact v.get 1 rfl
      | 2, _ => exact v.get 2 rfl
    have c0 := hc 0 (by omega)
    have c1 := hc 1 (by omega)
    have c2 := hc 2 (by omega)
    have HROW := Lib.hid hrow
    obtain ⟨va, vc, rfl⟩ := hrow.here.shape
    clear hc hrow
    go_wp2_with fail
    refine bodyPost_ret (v := .tuple #[.slice va L.length vc, .agg #[.int .i64 0, .int .i64 0, .int .i64 0]]) (by simp [results, Try.results14, go_sem, c0, c1, c2]) rfl ⟨_, rfl, ?_, ?_⟩
    · have hF : w.heap.size < (w.alloc (.cells #[.int .i64 0, .int .i64 0, .int .i64 0] 30)).heap.size := by simp
      exact HROW.out.near (by simp) (((near_setCell _ _ _ hF).trans (near_setCell _ _ _ hF)).trans (near_setCell _ _ _ hF))
    · exact ((((((Below.refl _ _).alloc (Nat.le_refl _) _).trans (hb1.mono (by simp))).setCell (Nat.le_refl _) _).setCell (Nat.le_refl _) _).setCell (Nat.le_refl _) _)
end Go.Proofs.Ytfhicmjfifpjkaa
