/- slices.Grow at a nil slice, slices.Concat. -/
import Derived.Shelf.Spec.SlicesGrow
import Derived.Test.YteimfcokobdldaaCnS
namespace Go.Proofs
open Go.Shelf
def Try.growL_ren : Go.Shelf.Ren := ⟨fun | 4 => 61 | n => n, fun | 0 => 0 | 3 => 3 | 4 => 4 | 9 => 9 | 20 => 20 | 22 => 31 | 25 => 3 | n => n, fun | n => n⟩
theorem Try.growL : Go.Proofs.Lays8.n4 Try.prog Try.growL_ren := {
  mixed := by kernel_rfl
  f4 := ⟨Try.f61.name, by decide, Try.func61.trans (congrArg some (by kernel_rfl))⟩
  t0 := Try.underlying0
  a0 := Try.isAgg0
  z0 := Try.sizeOf0
  v0 := Try.zeroValue0
  t3 := Try.underlying3
  a3 := Try.isAgg3
  z3 := Try.sizeOf3
  v3 := Try.zeroValue3
  t4 := Try.underlying4
  a4 := Try.isAgg4
  z4 := Try.sizeOf4
  v4 := Try.zeroValue4
  t9 := Try.underlying9
  a9 := Try.isAgg9
  z9 := Try.sizeOf9
  v9 := Try.zeroValue9
  t20 := Try.underlying20
  a20 := Try.isAgg20
  z20 := Try.sizeOf20
  v20 := Try.zeroValue20
  t22 := Try.underlying31
  a22 := Try.isAgg31
  z22 := Try.sizeOf31
  v22 := Try.zeroValue31 }
end Go.Proofs
namespace Go.Proofs.Yteimfcokobdldaa
open Go.RowKit
set_option linter.unusedVariables false
theorem heap_new (w : World) (o : Obj) : (w.heap.push o)[w.heap.size]? = some o := by simp
theorem grow_nil (n : Nat) (w : World) (hn : n ≤ 10000000) :
    Calls Try.prog 61 #[.slice none 0 0, .int .i64 n] w fun e w' => ∃ a c, e = .returned (.slice a 0 c) ∧ OwnV w.heap.size 3 w w' (.slice a 0 c) [] := by
  by_cases h0 : n = 0
  · subst h0
    refine (Any8.slices_Grow_room Try.growL none 0 0 0 w (Nat.le_refl _) (by omega) (by omega) (by omega)).mono ?_
    rintro e w' ⟨rfl, rfl⟩
    exact ⟨_, _, rfl, OwnV.none _ _ _ (Nat.le_refl _)⟩
  · obtain ⟨i0, hi0, hz0, hz1, hz2⟩ := info_parts' infoI
    refine (Any8.slices_Grow_grow Try.growL i0 (.int .i64 0) hi0 hz0 (by rw [hz1]; decide) none 0 0 n [] w (Nat.le_refl _) (by omega) (by rw [hz2]; omega) (by omega) (by simp) (fun _ => rfl) (fun a h => by cases h)).mono ?_
    rintro e w' ⟨rfl, rfl⟩
    refine ⟨_, _, rfl, ?_, ?_, by simp, .inr ⟨w.heap.size, _, _, rfl, Nat.le_refl _, heap_new w _, Nat.zero_le _, ?_, ?_, by simp⟩⟩
    · show w.heap.size ≤ (w.heap.push _).size
      simp
    · exact (show Below w.heap.size w w.drew from ⟨rfl, rfl, rfl, Nat.le_refl _, fun _ _ => rfl⟩).trans (show Below w.heap.size w.drew (w.drew.alloc _) from (Below.refl w.drew.heap.size w.drew).alloc (Nat.le_refl _) _)
    · exact grownCap_le_maxLen w _ _ _ (by unfold maxLen; omega)
    · have := grownCap_ge w (0 + n) 0 (Try.growL_ren.t 25)
      rw [Nat.zero_add] at this
      simp [Builtin.zeroCells, Value.cells]
      omega
/-- how many elements the first k clauses have -/
def flatN (LL : List (List Int)) (k : Nat) : Nat := (LL.take k).flatten.length
theorem flat_take (LL : List (List Int)) (k : Nat) (h : k < LL.length) : (LL.take (k + 1)).flatten = (LL.take k).flatten ++ LL.getD k [] := by
  rw [List.take_succ_eq_append_getElem h, List.flatten_append]
  simp [h]
theorem flat_le (LL : List (List Int)) (k : Nat) : (LL.take k).flatten.length ≤ LL.flatten.length := by
  conv => rhs; rw [← List.take_append_drop k LL]
  rw [List.flatten_append, List.length_append]
  omega
theorem flatN_succ (LL : List (List Int)) (k : Nat) (h : k < LL.length) : flatN LL (k + 1) = flatN LL k + (LL.getD k []).length := by unfold flatN; rw [flat_take LL k h, List.length_append]
theorem flatN_le (LL : List (List Int)) (k : Nat) : flatN LL k ≤ LL.flatten.length := flat_le LL k
set_option maxRecDepth 100000 in
set_option maxHeartbeats 1600000 in
theorem concat_any (a : Option Addr) (cap : Nat) (LL : List (List Int)) (w : World) (h : RowOf 1 IntsC w (.slice a LL.length cap) LL) (hl : LL.length ≤ 1000000) (hsum : LL.flatten.length ≤ 1000000) :
    Calls Try.prog 46 #[.slice a LL.length cap] w (SliceOf w LL.flatten) := by
  have H := Lib.hid h
  clear h
  obtain ⟨i0, hi0, hz0, hz1, hz2⟩ := info_parts' infoI
  have HI0 := Lib.hid hi0
  have HZ0 := Lib.hid hz0
  have HZ1 := Lib.hid hz1
  have HZ2 := Lib.hid hz2
  clear hi0 hz0 hz1 hz2
  obtain ⟨N, hN⟩ : ∃ N, LL.flatten.length = N := ⟨_, rfl⟩
  rw [hN] at hsum
  have HFL : Hid (∀ k, flatN LL k ≤ N) := Lib.hid (fun k => by rw [← hN]; exact flatN_le LL k)
  have HN := Lib.hid hN
  clear hN
  go_enter Try.func46, Try.ntmps46
  go_wp2_with fail
  go_loop [3, 11] (fun s i => ∃ k : Nat, i = .int .i64 k ∧ k ≤ LL.length ∧ s = .int .i64 (flatN LL k : Nat)) (fun _ i => LL.length - (intOf i).toNat)
  case atStart => exact ⟨0, rfl, Nat.zero_le _, rfl⟩
  case round =>
    obtain ⟨k, rfl, hk, rfl⟩ := hrel
    have k0 : (0 : Int) ≤ (k : Int) := by omega
    by_cases hlt : k < LL.length
    · have k1 : (k : Int) < (LL.length : Int) := by omega
      have hdk : decide (k < LL.length) = true := decide_eq_true hlt
      obtain ⟨b, off, va, vc, rfl, _, hc, hrw, _⟩ := ints_row H.out k hlt
      have hsm := flatN_succ LL k hlt
      have h2 := HFL.out (k + 1)
      have h1 := HFL.out k
      clear hrw
      obtain ⟨s0, hs0⟩ : ∃ s, flatN LL k = s := ⟨_, rfl⟩
      obtain ⟨s1, hs1⟩ : ∃ s, flatN LL (k + 1) = s := ⟨_, rfl⟩
      obtain ⟨q, hq⟩ : ∃ s, (LL.getD k []).length = s := ⟨_, rfl⟩
      rw [hs0, hs1, hq] at hsm
      rw [hs0] at h1 ⊢
      rw [hs1] at h2
      rw [hq] at hc
      have HS1 := Lib.hid hs1
      clear hs0 hs1 hq
      have hd : decide ((s0 : Int) + (q : Int) < 0) = false := decide_eq_false (by omega)
      go_wp2_with fail
      go_round
      case rel => exact ⟨k + 1, by go_num, by omega, by rw [HS1.out, hsm]; go_num⟩
      case measure => simp [intOf]; omega
    · have hdk : decide (k < LL.length) = false := decide_eq_false hlt
      have hke : flatN LL k = N := by unfold flatN; rw [List.take_of_length_le (by omega)]; exact HN.out
      rw [hke]
      have HLT := Lib.hid hlt
      clear hlt hke
      go_wp2_with fail
      refine (grow_nil N _ (by omega)).mono ?_
      rintro e w1 ⟨ga, gc, rfl, hg⟩
      have HG := Lib.hid hg
      have HR := Lib.hid (H.out.below intsC_lasts hg.be)
      clear hg
      go_wp2_with fail
      go_loopw [6, 27] (fun s i wr => ∃ k : Nat, i = .int .i64 k ∧ k ≤ LL.length ∧ OwnV w.heap.size 3 w wr s (intVals (LL.take k).flatten)) (fun _ i _ => LL.length - (intOf i).toNat)
      case atStart => exact ⟨0, rfl, Nat.zero_le _, HG.out⟩
      case round =>
        obtain ⟨q, rfl, hq, hS⟩ := hrel
        have HS := Lib.hid hS
        clear hS
        have q0 : (0 : Int) ≤ (q : Int) := by omega
        by_cases hqt : q < LL.length
        · have q1 : (q : Int) < (LL.length : Int) := by omega
          have hdq : decide (q < LL.length) = true := decide_eq_true hqt
          obtain ⟨b, off, va, vc, rfl, _, hc, hrw, _⟩ := ints_row (H.out.below intsC_lasts HS.out.be) q hqt
          have HRW := Lib.hid hrw
          have HFT := Lib.hid (flat_take LL q hqt)
          have h2 := HFL.out (q + 1)
          have h1 := HFL.out q
          have hsm := flatN_succ LL q hqt
          have hb2 := HS.out.bsz
          obtain ⟨sa, sc, rfl⟩ := HS.out.row.shape
          clear hrw
          obtain ⟨C, hC⟩ : ∃ C, LL.getD q [] = C := ⟨_, rfl⟩
          rw [hC] at hc HRW HFT hsm
          clear hC
          go_wp2_with (at_builtin; refine wpList_app _ rfl _ _ 31 rfl w.heap.size 3 i0 (.int .i64 0) 8 Try.underlying31 HI0.out HZ0.out HZ1.out HZ2.out rfl _ _ _ rfl HS.out.own _ (intVals C) rfl HRW.out (intVals_one _) (by rw [intVals_length, intVals_length]; show flatN LL q + _ ≤ _; unfold maxLen; omega) (by rw [intVals_length, intVals_length]; show (flatN LL q + _) * _ ≤ _; omega) hb2 ?_)
          intro v2 w2 ha2
          have HS2 : Hid (OwnV w.heap.size 3 w w2 v2 (intVals (LL.take (q + 1)).flatten)) := Lib.hid (by
            rw [HFT.out, intVals_app]
            exact HS.out.app (Below.refl _ _) ha2)
          obtain ⟨a2, n2, c2, rfl⟩ := ha2.shape
          clear ha2
          go_wp2_with fail
          go_roundw
          case rel => exact ⟨q + 1, by go_num, by omega, HS2.out⟩
          case measure => simp [intOf]; omega
        · have hdq : decide (q < LL.length) = false := decide_eq_false hqt
          have HV : Hid (OwnV w.heap.size 3 w wr _ (intVals LL.flatten)) := Lib.hid (by have := HS.out; rwa [List.take_of_length_le (by omega)] at this)
          obtain ⟨sa, sc, rfl⟩ := HV.out.row.shape
          have HQT := Lib.hid hqt
          clear hqt HS
          rw [intVals_length] at HV
          rw [intVals_length]
          go_wp2_with fail
          go_ret
          exact ⟨_, _, rfl, HV.out.row, HV.out.be⟩
end Go.Proofs.Yteimfcokobdldaa
