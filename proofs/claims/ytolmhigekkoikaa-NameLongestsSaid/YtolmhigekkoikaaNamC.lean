/- Contracts of the walks of name.Plain and of the references' Plain, Stroke, Split, Scoped: each returns what its plain Lean function says; no condition but that the text's length fits. -/
import Derived.Test.YtolmhigekkoikaaNamB
namespace Go.Proofs.Ytolmhigekkoikaa
open Go.RowKit
set_option linter.unusedVariables false
theorem tuple2_str {a b c d : ByteArray} (h1 : a = c) (h2 : b = d) : Ending.returned (.tuple #[.string a, .string b]) = .returned (.tuple #[.string c, .string d]) := by rw [h1, h2]
theorem front_is (l : List UInt8) (v : Bool) (w : World) (hl : l.length ≤ 9223372036854775807) (hv : Hid (frontL l = v)) :
    Calls Try.prog 26 #[.string ⟨l.toArray⟩] w fun e w' => e = .returned (.bool v) ∧ w = w' := by
  have := front_any l w hl
  rwa [hv.out] at this
theorem rletters_is (l : List UInt8) (v : Bool) (w : World) (hl : l.length ≤ 9223372036854775807) (hv : Hid (frontL l = v)) :
    Calls Try.prog 27 #[.string ⟨l.toArray⟩] w fun e w' => e = .returned (.bool v) ∧ w = w' := by
  have := rletters_any l w hl
  rwa [hv.out] at this
theorem pos_of_ne {l : List UInt8} (h : l ≠ []) : 0 < l.length := by
  apply Nat.pos_of_ne_zero
  intro e; exact h (List.length_eq_zero_iff.1 e)
theorem plain_any (l : List UInt8) (w : World) (hl : l.length ≤ 9223372036854775807) :
    Calls Try.prog 11 #[.string ⟨l.toArray⟩] w fun e w' => e = .returned (.bool (plainL l)) ∧ w = w' := by
  have hgb := get_by8 l
  by_cases h0 : l = []
  · subst h0
    go_enter Try.func11, Try.ntmps11
    go_wp2_with fail
    go_ret
    exact ⟨rfl, rfl⟩
  · have hpos := pos_of_ne h0
    have he : l.isEmpty = false := by cases l with | nil => exact absurd rfl h0 | cons => rfl
    have HP := Lib.hid (plain_of l hpos)
    have hk1 : ((l.length : Int) - 1).toNat = l.length - 1 := by omega
    have hb8 := by8_le l (l.length - 1)
    have z : ((by8 l (l.length - 1) : Int) != 45) = !(by8 l (l.length - 1) == 45) := by
      rw [Bool.eq_iff_iff]; simp; omega
    generalize hf : frontL l = f at *
    have HF := Lib.hid hf
    clear hf
    cases f
    · go_enter Try.func11, Try.ntmps11
      go_wp2_with fail
      refine (front_is l false _ hl HF).mono ?_
      rintro e w' ⟨rfl, rfl⟩
      go_wp2_with fail
      go_ret
      exact ⟨ret_bool (by rw [HP.out]; rfl), rfl⟩
    · go_enter Try.func11, Try.ntmps11
      go_wp2_with fail
      refine (front_is l true _ hl HF).mono ?_
      rintro e w' ⟨rfl, rfl⟩
      go_wp2_with fail
      go_ret
      exact ⟨ret_bool (by rw [HP.out]; rfl), rfl⟩
theorem rplain_any (l : List UInt8) (w : World) (hl : l.length ≤ 9223372036854775807) :
    Calls Try.prog 12 #[.string ⟨l.toArray⟩] w fun e w' => e = .returned (.bool (plainL l)) ∧ w = w' := by
  have hgb := get_by8 l
  by_cases h0 : l = []
  · subst h0
    go_enter Try.func12, Try.ntmps12
    go_wp2_with fail
    go_ret
    exact ⟨rfl, rfl⟩
  · have hpos := pos_of_ne h0
    have HP := Lib.hid (plain_of l hpos)
    have hk1 : ((l.length : Int) - 1).toNat = l.length - 1 := by omega
    have hb8 := by8_le l (l.length - 1)
    have hd : decide (0 < l.length) = true := by simpa using hpos
    have z : ((by8 l (l.length - 1) : Int) != 45) = !(by8 l (l.length - 1) == 45) := by
      rw [Bool.eq_iff_iff]; simp; omega
    generalize hf : frontL l = f at *
    have HF := Lib.hid hf
    clear hf
    cases f
    · go_enter Try.func12, Try.ntmps12
      go_wp2_with fail
      refine (rletters_is l false _ hl HF).mono ?_
      rintro e w' ⟨rfl, rfl⟩
      go_wp2_with fail
      go_ret
      exact ⟨ret_bool (by rw [HP.out]; rfl), rfl⟩
    · go_enter Try.func12, Try.ntmps12
      go_wp2_with fail
      refine (rletters_is l true _ hl HF).mono ?_
      rintro e w' ⟨rfl, rfl⟩
      go_wp2_with fail
      go_ret
      exact ⟨ret_bool (by rw [HP.out]; rfl), rfl⟩
theorem stroke_any (l : List UInt8) (w : World) (hl : l.length ≤ 9223372036854775807) :
    Calls Try.prog 25 #[.string ⟨l.toArray⟩] w fun e w' => e = .returned (.int .i64 (strokeL l : Nat)) ∧ w = w' := by
  have hgb := get_by8 l
  have HU := Lib.hid (stroke_unique l)
  go_enter Try.func25, Try.ntmps25
  go_wp2_with fail
  go_loop [3] (fun i => ∃ k : Nat, k ≤ l.length ∧ i = .int .i64 k ∧ ∀ i, i < k → by8 l i ≠ 47) (fun i => l.length - (intOf i).toNat)
  case atStart => exact ⟨0, by omega, rfl, fun i hi => absurd hi (by omega)⟩
  case round =>
    obtain ⟨k, hk, rfl, hall⟩ := hrel
    have HA := Lib.hid hall
    clear hall
    by_cases hlt : k < l.length
    · have hk8 := by8_le l k
      by_cases h47 : by8 l k = 47
      · have HS := Lib.hid (HU.out k HA.out hk (fun _ => h47))
        have hq : ((by8 l k : Int) == 47) = true := by simp; omega
        clear h47
        go_wp2_with fail
        go_ret
        exact ⟨ret_int (by rw [← HS.out]), rfl⟩
      · have hq : ((by8 l k : Int) == 47) = false := by simp; omega
        go_wp2_with fail
        go_round
        case rel => exact ⟨k + 1, by omega, by go_num, fun i hi => if e : i = k then e ▸ h47 else HA.out i (by omega)⟩
        case measure => simp [intOf]; omega
    · obtain rfl : k = l.length := by omega
      have HS := Lib.hid (HU.out _ HA.out hk (fun h => absurd h (by omega)))
      go_wp2_with fail
      go_ret
      exact ⟨ret_int (by rw [← HS.out]), rfl⟩
theorem stroke_is (l : List UInt8) (k : Nat) (w : World) (hl : l.length ≤ 9223372036854775807) (hk : Hid (strokeL l = k)) :
    Calls Try.prog 25 #[.string ⟨l.toArray⟩] w fun e w' => e = .returned (.int .i64 k) ∧ w = w' := by
  have := stroke_any l w hl
  rwa [hk.out] at this
set_option maxHeartbeats 800000 in
theorem rsplit_any (l : List UInt8) (w : World) (hl : l.length ≤ 9223372036854775807) :
    Calls Try.prog 10 #[.string ⟨l.toArray⟩] w fun e w' => e = .returned (.tuple #[.string ⟨(scopeL l).toArray⟩, .string ⟨(restL l).toArray⟩]) ∧ Below w.heap.size w w' := by
  have hgb := get_by8 l
  have hle := strokeL_le l
  have hb8 := by8_le l 0
  have HH : Hid (hasScope l = (decide (strokeL l < l.length) && by8 l 0 == 64)) := rfl
  have H1 : Hid (scopeL l = if hasScope l then (l.take (strokeL l)).drop 1 else []) := rfl
  have H2 : Hid (restL l = if hasScope l then l.drop (strokeL l + 1) else l) := rfl
  generalize hk : strokeL l = k at *
  have HK := Lib.hid hk
  clear hk
  by_cases h1 : k = l.length
  · have hs : hasScope l = false := by rw [HH.out, decide_eq_false (by omega)]; rfl
    rw [hs] at H1 H2
    have HK2 : Hid (strokeL l = l.length) := by rw [HK.out, h1]; rfl
    clear hs
    go_enter Try.func10, Try.ntmps10
    go_wp2_with fail
    refine (stroke_is l l.length _ hl HK2).mono ?_
    rintro e w' ⟨rfl, rfl⟩
    go_wp2_with fail
    go_ret2
    exact ⟨by rw [H1.out, H2.out]; rfl, Below.refl _ _⟩
  · have hne : ((k : Int) == (l.length : Int)) = false := by simp; omega
    by_cases h2 : by8 l 0 = 64
    · have hs : hasScope l = true := by rw [HH.out, decide_eq_true (by omega), h2]; rfl
      rw [hs] at H1 H2
      have hq : ((by8 l 0 : Int) != 64) = false := by simp; omega
      have hk1 : 1 ≤ k := by
        apply Classical.byContradiction
        intro hn
        have : k = 0 := by omega
        have h3 := stroke_at l (by rw [HK.out]; omega)
        rw [HK.out, this, h2] at h3
        cases h3
      clear hs h2
      go_enter Try.func10, Try.ntmps10
      go_wp2_with fail
      refine (stroke_is l k _ hl HK).mono ?_
      rintro e w' ⟨rfl, rfl⟩
      go_wp2_with fail
      go_quiet (fail)
      go_wp2_with fail
      go_ret2
      refine ⟨?_, below_drewN (Below.refl _ _) _⟩
      rw [H1.out, H2.out]
      exact tuple2_str (ext_list l 1 k) (ext_all l (k + 1))
    · have hs : hasScope l = false := by rw [HH.out, beq_eq_false_iff_ne.2 h2]; simp
      rw [hs] at H1 H2
      have hq : ((by8 l 0 : Int) != 64) = true := by simp; omega
      clear hs h2
      go_enter Try.func10, Try.ntmps10
      go_wp2_with fail
      refine (stroke_is l k _ hl HK).mono ?_
      rintro e w' ⟨rfl, rfl⟩
      go_wp2_with fail
      go_ret2
      exact ⟨by rw [H1.out, H2.out]; rfl, Below.refl _ _⟩
theorem plain_is (l : List UInt8) (v : Bool) (w : World) (hl : l.length ≤ 9223372036854775807) (hv : Hid (plainL l = v)) :
    Calls Try.prog 11 #[.string ⟨l.toArray⟩] w fun e w' => e = .returned (.bool v) ∧ w = w' := by
  have := plain_any l w hl
  rwa [hv.out] at this
theorem rplain_is (l : List UInt8) (v : Bool) (w : World) (hl : l.length ≤ 9223372036854775807) (hv : Hid (plainL l = v)) :
    Calls Try.prog 12 #[.string ⟨l.toArray⟩] w fun e w' => e = .returned (.bool v) ∧ w = w' := by
  have := rplain_any l w hl
  rwa [hv.out] at this
/-- does it begin with @, a plain name and a stroke? -/
def scopedL (l : List UInt8) : Bool := hasScope l && plainL (scopeL l)
set_option maxHeartbeats 800000 in
theorem scoped_any (l : List UInt8) (w : World) (hl : l.length ≤ 9223372036854775807) :
    Calls Try.prog 28 #[.string ⟨l.toArray⟩] w fun e w' => e = .returned (.bool (scopedL l)) ∧ w = w' := by
  have hgb := get_by8 l
  have hle := strokeL_le l
  have hb8 := by8_le l 0
  have HS : Hid (scopedL l = (hasScope l && plainL (scopeL l))) := rfl
  have HH : Hid (hasScope l = (decide (strokeL l < l.length) && by8 l 0 == 64)) := rfl
  have H1 : Hid (scopeL l = if hasScope l then (l.take (strokeL l)).drop 1 else []) := rfl
  have hsa := stroke_at l
  generalize hk : strokeL l = k at *
  have HK := Lib.hid hk
  clear hk
  by_cases h1 : k < l.length
  · have hd : decide (k < l.length) = true := by simpa using h1
    by_cases h2 : by8 l 0 = 64
    · have hs : hasScope l = true := by rw [HH.out, hd, h2]; rfl
      have hk1 : 1 ≤ k := by
        apply Classical.byContradiction
        intro hn
        have : k = 0 := by omega
        have h3 := hsa h1
        rw [this, h2] at h3
        cases h3
      rw [hs] at H1 HS
      rw [H1.out] at HS
      have hq : ((by8 l 0 : Int) == 64) = true := by simp; omega
      generalize hp : plainL ((l.take k).drop 1) = p at *
      have HP : Hid (plainL (List.drop 1 (List.take k l)) = p) := hp
      clear hs h2 hp hsa
      go_enter Try.func28, Try.ntmps28
      go_wp2_with fail
      refine (stroke_is l k _ hl HK).mono ?_
      rintro e w' ⟨rfl, rfl⟩
      go_wp2_with fail
      rw [ext_list]
      refine (rplain_is _ p _ (by simp; omega) HP).mono ?_
      rintro e w' ⟨rfl, rfl⟩
      go_wp2_with fail
      go_ret
      exact ⟨ret_bool (by rw [HS.out, if_pos trivial]; exact HP.out.symm), rfl⟩
    · have hs : hasScope l = false := by rw [HH.out, beq_eq_false_iff_ne.2 h2]; simp
      rw [hs] at HS
      have hq : ((by8 l 0 : Int) == 64) = false := by simp; omega
      clear hs h2 hsa
      go_enter Try.func28, Try.ntmps28
      go_wp2_with fail
      refine (stroke_is l k _ hl HK).mono ?_
      rintro e w' ⟨rfl, rfl⟩
      go_wp2_with fail
      go_ret
      exact ⟨ret_bool (by rw [HS.out]; rfl), rfl⟩
  · have hd : decide (k < l.length) = false := by simpa using h1
    have hs : hasScope l = false := by rw [HH.out, hd]; rfl
    rw [hs] at HS
    clear hs hsa
    go_enter Try.func28, Try.ntmps28
    go_wp2_with fail
    refine (stroke_is l k _ hl HK).mono ?_
    rintro e w' ⟨rfl, rfl⟩
    go_wp2_with fail
    go_ret
    exact ⟨ret_bool (by rw [HS.out]; rfl), rfl⟩
end Go.Proofs.Ytolmhigekkoikaa
