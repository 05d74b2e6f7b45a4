/- What must follow does: the statements' own small example. -/
import Derived.Test.YteimfcokobdldaaCnZ
namespace Go.Proofs.Yteimfcokobdldaa
open Go.RowKit
set_option linter.unusedVariables false
theorem res12 : resL [1, 2] [-1, 3] 1 = [2, 3] := by
  refine (normL_of ?_ ?_).symm
  · unfold Sorted
    simp [befI, varI]
  · intro x
    have : bothL [1, 2] [-1, 3] 1 = [2, 3] := by decide
    rw [this]
theorem resB12 : resB [1, 2] [-1, 3] 1 = true := by decide
theorem spr12 : spreadV 2 [[1], [-1, 2]] [] = some [0, 1, 1] := by decide
theorem out12 : outTo [0, 1, 1] 2 = [1, 2] := by decide
theorem chk12 : chkF 2 [[1], [-1, 2]] = 0 := by decide
theorem hol12 : holdsB [[1], [-1, 2]] [true, true] = true := by decide
theorem hol0 : holdsB [[1], [-1, 2]] [] = false := by decide
theorem lits12 : Lits [1, 2] := by intro x hx; simp at hx; omega
theorem litsm3 : Lits [-1, 3] := by intro x hx; simp at hx; omega
theorem litsL : ∀ c ∈ ([[1], [-1, 2]] : List (List Int)), Lits c := by
  intro c hc x hx
  simp at hc
  rcases hc with rfl | rfl <;> simp at hx <;> omega
theorem lit_row (w : World) (l : List Int) (T : TypeId) (n g : Nat) (hn : l.length = n) (hp : 0 < n) (hm : n ≤ 1000) (hg : g = w.heap.size) : ValRow (w.alloc (.cells (intVals l).toArray T)) (.slice (some ⟨g, 0, none⟩) n n) (intVals l) := by
  subst hg
  have := valRow_lit w (intVals l).toArray T n (by simpa [intVals] using hn) hp (by unfold maxLen; omega)
  simpa using this
theorem two_row' {w : World} {va vb : Value} {A B : List Int} (ha : ValRow w va (intVals A)) (hb : ValRow w vb (intVals B)) (T : TypeId) (hA : Lits A) (hB : Lits B) (g : Nat) (hg : g = w.heap.size) :
    RowOf 1 IntsC (w.alloc (.cells #[va, vb] T)) (.slice (some ⟨g, 0, none⟩) 2 2) [A, B] := by
  subst hg; exact two_row ha hb T hA hB
theorem bool_row (w : World) (l : List Bool) (T : TypeId) (n g : Nat) (hn : l.length = n) (hp : 0 < n) (hm : n ≤ 1000) (hg : g = w.heap.size) : ValRow (w.alloc (.cells (boolVals l).toArray T)) (.slice (some ⟨g, 0, none⟩) n n) (boolVals l) := by
  subst hg
  have := valRow_lit w (boolVals l).toArray T n (by simpa [boolVals] using hn) hp (by unfold maxLen; omega)
  simpa using this
theorem below_lit (w : World) (o : Obj) : Below w.heap.size w (w.alloc o) := (Below.refl _ _).alloc (Nat.le_refl _) _
set_option maxRecDepth 100000 in
set_option maxHeartbeats 1600000 in
theorem resolved_true (w : World) : Calls Try.prog 10 #[] w fun e w' => e = .returned (.bool true) ∧ Below w.heap.size w w' := by
  have hra : ValRow (w.alloc (.cells (intVals [1, 2]).toArray 3)) (.slice (some ⟨w.heap.size, 0, none⟩) 2 2) (intVals [1, 2]) := lit_row w [1, 2] 3 2 _ rfl (by omega) (by omega) rfl
  have hrb : ValRow ((w.alloc (.cells (intVals [1, 2]).toArray 3)).alloc (.cells (intVals [-1, 3]).toArray 3)) (.slice (some ⟨w.heap.size + 1, 0, none⟩) 2 2) (intVals [-1, 3]) := lit_row _ [-1, 3] 3 2 _ rfl (by omega) (by omega) (by simp)
  have HRA := Lib.hid (hra.below ((Below.refl _ _).alloc (Nat.le_refl _) (.cells (intVals [-1, 3]).toArray 3)))
  have HRB := Lib.hid hrb
  have hb1 : Below w.heap.size w ((w.alloc (.cells (intVals [1, 2]).toArray 3)).alloc (.cells (intVals [-1, 3]).toArray 3)) := ((Below.refl _ _).alloc (Nat.le_refl _) _).alloc (by simp) _
  have HB1 := Lib.hid hb1
  clear hra hrb hb1
  go_enter Try.func10, Try.ntmps10
  go_wp2_with fail
  refine (resolve_any _ 2 [1, 2] _ 2 [-1, 3] 1 _ HRA.out HRB.out lits12 litsm3 (by decide) (by decide) (by omega)).mono ?_
  rintro e w1 (⟨hf, _⟩ | ⟨_, ra, rc, rfl, hr, hb⟩)
  · rw [resB12] at hf; cases hf
  rw [res12] at hr ⊢
  have HR := Lib.hid hr
  have HB := Lib.hid (HB1.out.trans (hb.mono HB1.out.size))
  clear hr hb HRA HRB
  go_wp2_with fail
  have hA : ValRow (w1.alloc (.cells (intVals [1]).toArray 3)) (.slice (some ⟨w1.heap.size, 0, none⟩) 1 1) (intVals [1]) := lit_row w1 [1] 3 1 _ rfl (by omega) (by omega) rfl
  have hB : ValRow ((w1.alloc (.cells (intVals [1]).toArray 3)).alloc (.cells (intVals [-1, 2]).toArray 3)) (.slice (some ⟨w1.heap.size + 1, 0, none⟩) 2 2) (intVals [-1, 2]) := lit_row _ [-1, 2] 3 2 _ rfl (by omega) (by omega) (by simp)
  have hC := two_row' (hA.below (below_lit _ _)) hB 31 (litsL [1] (by simp)) (litsL [-1, 2] (by simp)) (w1.heap.size + 1 + 1) (by simp)
  have hC2 := hC.below intsC_lasts (below_lit _ (.cells #[.int .i64 2, .slice (some ⟨w1.heap.size + 1 + 1, 0, none⟩) 2 2] 26))
  have hV2 := varAt_new (((w1.alloc (.cells (intVals [1]).toArray 3)).alloc (.cells (intVals [-1, 2]).toArray 3)).alloc (.cells #[.slice (some ⟨w1.heap.size, 0, none⟩) 1 1, .slice (some ⟨w1.heap.size + 1, 0, none⟩) 2 2] 31)) #[.int .i64 2, .slice (some ⟨w1.heap.size + 1 + 1, 0, none⟩) 2 2] 26 (w1.heap.size + 1 + 1 + 1) (by simp)
  have hb4 : Below w1.heap.size w1 ((((w1.alloc (.cells (intVals [1]).toArray 3)).alloc (.cells (intVals [-1, 2]).toArray 3)).alloc (.cells #[.slice (some ⟨w1.heap.size, 0, none⟩) 1 1, .slice (some ⟨w1.heap.size + 1, 0, none⟩) 2 2] 31)).alloc (.cells #[.int .i64 2, .slice (some ⟨w1.heap.size + 1 + 1, 0, none⟩) 2 2] 26)) :=
    (((below_lit _ _).alloc (by simp) _).alloc (by simp; omega) _).alloc (by simp; omega) _
  have HC := Lib.hid hC2
  have HV := Lib.hid hV2
  have HR4 := Lib.hid (HR.out.below hb4)
  have HB4 := Lib.hid (HB.out.trans (hb4.mono HB.out.size))
  clear hA hB hC hC2 hV2 hb4
  refine (spread_any 2 _ 2 [[1], [-1, 2]] none 0 [] _ HC.out (.inl ⟨_, _, rfl, rfl⟩) (Lib.hid chk12) (Lib.hid rfl) _ (Lib.hid spr12)).mono ?_
  rintro e w2 (⟨hf, _⟩ | ⟨V, v, hV, rfl, hv, hb⟩)
  · cases hf
  obtain rfl : [0, 1, 1] = V := by injection hV
  rw [out12] at hv
  obtain ⟨sa, sc, rfl⟩ := hv.shape
  rw [intVals_length] at hv ⊢
  have HR5 := Lib.hid (HR4.out.below hb)
  have HC5 := Lib.hid (HC.out.below intsC_lasts hb)
  have HV5 := Lib.hid (HV.out.after hb)
  have HB5 := Lib.hid (HB4.out.trans (hb.mono HB4.out.size))
  have HS5 := Lib.hid hv
  clear hv hb HR4 HC HV HB4 hV HR HB
  go_wp2_with fail
  refine (ints_same _ _ [2, 3] _ (HR5.out.below (below_lit _ _)) (lit_row w2 [2, 3] 3 2 _ rfl (by omega) (by omega) rfl)).mono ?_
  rintro e w3 ⟨rfl, m, hw3⟩
  have hb3 : Below w2.heap.size w2 w3 := by rw [hw3]; exact below_drewN' (below_lit _ _) m
  have HS6 := Lib.hid (HS5.out.below hb3)
  have HC6 := Lib.hid (HC5.out.below intsC_lasts hb3)
  have HV6 := Lib.hid (HV5.out.after hb3)
  have HB6 := Lib.hid (HB5.out.trans (hb3.mono HB5.out.size))
  clear hw3 hb3 HS5 HC5 HV5 HB5 HR5
  go_wp2_with fail
  refine (ints_same _ _ [1, 2] _ (HS6.out.below (below_lit _ _)) (lit_row w3 [1, 2] 3 2 _ rfl (by omega) (by omega) rfl)).mono ?_
  rintro e w4 ⟨rfl, m4, hw4⟩
  have hb4 : Below w3.heap.size w3 w4 := by rw [hw4]; exact below_drewN' (below_lit _ _) m4
  have HC7 := Lib.hid (HC6.out.below intsC_lasts hb4)
  have HV7 := Lib.hid (HV6.out.after hb4)
  have HB7 := Lib.hid (HB6.out.trans (hb4.mono HB6.out.size))
  have d0 := HV7.out.get 0 rfl
  have d1 := HV7.out.get 1 rfl
  clear hw4 hb4 HS6 HC6 HV6 HB6
  go_wp2_with fail
  have hb5 := below_lit w4 (.cells (boolVals [true, true]).toArray 4)
  refine (holds_any 2 _ 2 [[1], [-1, 2]] _ 2 [true, true] _ (HC7.out.below intsC_lasts hb5) (bool_row w4 [true, true] 4 2 _ rfl (by omega) (by omega) rfl) litsL true (Lib.hid hol12)).mono ?_
  rintro e w5 ⟨rfl, hb6⟩
  have hb7 := hb5.trans (hb6.mono hb5.size)
  have HC8 := Lib.hid (HC7.out.below intsC_lasts hb7)
  have HV8 := Lib.hid (HV7.out.after hb7)
  have HB8 := Lib.hid (HB7.out.trans (hb7.mono HB7.out.size))
  have e0 := HV8.out.get 0 rfl
  have e1 := HV8.out.get 1 rfl
  clear hb5 hb6 hb7 d0 d1 HC7 HV7 HB7
  go_wp2_with fail
  refine (holds_any 2 _ 2 [[1], [-1, 2]] none 0 [] _ HC8.out (.inl ⟨_, _, rfl, rfl⟩) litsL false (Lib.hid hol0)).mono ?_
  rintro e w6 ⟨rfl, hb⟩
  have HB9 := Lib.hid (HB8.out.trans (hb.mono HB8.out.size))
  clear hb
  go_wp2_with fail
  go_ret
  exact ⟨rfl, HB9.out⟩
end Go.Proofs.Yteimfcokobdldaa
