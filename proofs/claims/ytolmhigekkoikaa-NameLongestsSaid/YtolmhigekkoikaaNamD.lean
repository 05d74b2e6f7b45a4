/- Contracts of the walks of the references' Check, Star, Glob, Match, Weight: each returns what its plain Lean function says; no condition but that the text's length fits. -/
import Derived.Test.YtolmhigekkoikaaNamC
namespace Go.Proofs.Ytolmhigekkoikaa
open Go.RowKit
set_option linter.unusedVariables false
theorem check_ref (l : List UInt8) : checkL l = if scopedL l then plainL (l.drop (strokeL l + 1)) else plainL l := by
  unfold checkL scopedL
  by_cases h : hasScope l = true
  · rw [h, if_pos rfl]
    have hr : restL l = l.drop (strokeL l + 1) := by unfold restL; rw [h]; rfl
    have h64 : by8 l 0 = 64 := by unfold hasScope at h; simp at h; exact h.2
    rw [hr]
    cases plainL (scopeL l)
    · simp [plain_false_at l h64]
    · simp
  · rw [if_neg h]; simp [h]
theorem globHead_ref (l : List UInt8) : globHead l = if scopedL l then frontL (l.drop (strokeL l + 1)) else frontL l := by
  unfold globHead scopedL
  by_cases h : hasScope l = true
  · rw [h, if_pos rfl]
    have hr : restL l = l.drop (strokeL l + 1) := by unfold restL; rw [h]; rfl
    have h64 : by8 l 0 = 64 := by unfold hasScope at h; simp at h; exact h.2
    have hne : l ≠ [] := by rintro rfl; simp [by8] at h64
    rw [hr]
    cases plainL (scopeL l)
    · rcases plain_not_at l h64 with h | h
      · simp [h]
      · exact absurd h hne
    · simp
  · rw [if_neg h]; simp [h]
theorem scoped_is (l : List UInt8) (v : Bool) (w : World) (hl : l.length ≤ 9223372036854775807) (hv : Hid (scopedL l = v)) :
    Calls Try.prog 28 #[.string ⟨l.toArray⟩] w fun e w' => e = .returned (.bool v) ∧ w = w' := by
  have := scoped_any l w hl
  rwa [hv.out] at this
theorem scoped_stroke (l : List UInt8) (h : scopedL l = true) : strokeL l < l.length := by
  unfold scopedL hasScope at h; simp at h; exact h.1.1
theorem rcheck_any (l : List UInt8) (w : World) (hl : l.length ≤ 9223372036854775807) :
    Calls Try.prog 14 #[.string ⟨l.toArray⟩] w fun e w' => e = .returned (.bool (checkL l)) ∧ w = w' := by
  have HC := Lib.hid (check_ref l)
  have hss := scoped_stroke l
  generalize hs : scopedL l = s at *
  have HS := Lib.hid hs
  clear hs
  cases s
  · clear hss
    go_enter Try.func14, Try.ntmps14
    go_wp2_with fail
    refine (scoped_is l false _ hl HS).mono ?_
    rintro e w' ⟨rfl, rfl⟩
    go_wp2_with fail
    refine (rplain_any l _ hl).mono ?_
    rintro e w' ⟨rfl, rfl⟩
    go_wp2_with fail
    go_ret
    exact ⟨ret_bool (by rw [HC.out]; rfl), rfl⟩
  · have hss := hss rfl
    generalize hk : strokeL l = k at *
    have HK := Lib.hid hk
    clear hk
    have hlen : (l.drop (k + 1)).length ≤ 9223372036854775807 := by simp; omega
    go_enter Try.func14, Try.ntmps14
    go_wp2_with fail
    refine (scoped_is l true _ hl HS).mono ?_
    rintro e w' ⟨rfl, rfl⟩
    go_wp2_with fail
    refine (stroke_is l k _ hl HK).mono ?_
    rintro e w' ⟨rfl, rfl⟩
    go_wp2_with fail
    rw [ext_all]
    refine (rplain_any _ _ hlen).mono ?_
    rintro e w' ⟨rfl, rfl⟩
    go_wp2_with fail
    go_ret
    exact ⟨ret_bool (by rw [HC.out]; rfl), rfl⟩
theorem rcheck_is (l : List UInt8) (v : Bool) (w : World) (hl : l.length ≤ 9223372036854775807) (hv : Hid (checkL l = v)) :
    Calls Try.prog 14 #[.string ⟨l.toArray⟩] w fun e w' => e = .returned (.bool v) ∧ w = w' := by
  have := rcheck_any l w hl
  rwa [hv.out] at this
theorem star_of (l : List UInt8) (h0 : 0 < l.length) : starL l = (by8 l (l.length - 1) == 42) := by
  have e : l.isEmpty = false := by cases l <;> simp at *
  unfold starL; rw [e]; rfl
theorem star_any (l : List UInt8) (w : World) (hl : l.length ≤ 9223372036854775807) :
    Calls Try.prog 30 #[.string ⟨l.toArray⟩] w fun e w' => e = .returned (.bool (starL l)) ∧ w = w' := by
  have hgb := get_by8 l
  by_cases h0 : l = []
  · subst h0
    go_enter Try.func30, Try.ntmps30
    go_wp2_with fail
    go_ret
    exact ⟨rfl, rfl⟩
  · have hpos := pos_of_ne h0
    have HP := Lib.hid (star_of l hpos)
    have hk1 : ((l.length : Int) - 1).toNat = l.length - 1 := by omega
    have hb8 := by8_le l (l.length - 1)
    have hd : decide (0 < l.length) = true := by simpa using hpos
    have z : ((by8 l (l.length - 1) : Int) == 42) = (by8 l (l.length - 1) == 42) := by
      rw [Bool.eq_iff_iff]; simp; omega
    go_enter Try.func30, Try.ntmps30
    go_wp2_with fail
    go_ret
    exact ⟨ret_bool (by rw [HP.out]), rfl⟩
theorem star_is (l : List UInt8) (v : Bool) (w : World) (hl : l.length ≤ 9223372036854775807) (hv : Hid (starL l = v)) :
    Calls Try.prog 30 #[.string ⟨l.toArray⟩] w fun e w' => e = .returned (.bool v) ∧ w = w' := by
  have := star_any l w hl
  rwa [hv.out] at this
theorem star_pos (l : List UInt8) (h : starL l = true) : 0 < l.length := by
  cases l with
  | nil => simp [starL] at h
  | cons => simp
theorem ext_head (l : List UInt8) (k : Nat) (h : k = l.length - 1) : (ByteArray.mk l.toArray).extract 0 k = ⟨(headL l).toArray⟩ := by
  subst h; rw [ext_list]; rfl
theorem headL_length (l : List UInt8) : (headL l).length = l.length - 1 := by unfold headL; simp
set_option maxHeartbeats 800000 in
theorem rglob_any (l : List UInt8) (w : World) (hl : l.length ≤ 9223372036854775807) :
    Calls Try.prog 16 #[.string ⟨l.toArray⟩] w fun e w' => e = .returned (.bool (globL l)) ∧ w = w' := by
  have HG : Hid (globL l = if starL l then globHead (headL l) else checkL l) := rfl
  have hsp := star_pos l
  generalize hs : starL l = s at *
  have HS := Lib.hid hs
  clear hs
  cases s
  · clear hsp
    go_enter Try.func16, Try.ntmps16
    go_wp2_with fail
    refine (star_is l false _ hl HS).mono ?_
    rintro e w' ⟨rfl, rfl⟩
    go_wp2_with fail
    refine (rcheck_any l _ hl).mono ?_
    rintro e w' ⟨rfl, rfl⟩
    go_wp2_with fail
    go_ret
    exact ⟨ret_bool (by rw [HG.out]; rfl), rfl⟩
  · have hsp := hsp rfl
    have hk1 : ((l.length : Int) - 1).toNat = l.length - 1 := by omega
    have HX := Lib.hid (ext_head l (l.length - 1) rfl)
    have hhl : (headL l).length ≤ 9223372036854775807 := by rw [headL_length]; omega
    have HH := Lib.hid (globHead_ref (headL l))
    have hss := scoped_stroke (headL l)
    generalize hh : headL l = h at *
    clear hh
    generalize hc : scopedL h = c at *
    have HC := Lib.hid hc
    clear hc
    cases c
    · clear hss
      go_enter Try.func16, Try.ntmps16
      go_wp2_with fail
      refine (star_is l true _ hl HS).mono ?_
      rintro e w' ⟨rfl, rfl⟩
      go_wp2_with fail
      rw [HX.out]
      refine (scoped_is h false _ hhl HC).mono ?_
      rintro e w' ⟨rfl, rfl⟩
      go_wp2_with fail
      refine (rletters_any h _ hhl).mono ?_
      rintro e w' ⟨rfl, rfl⟩
      go_wp2_with fail
      go_ret
      exact ⟨ret_bool (by rw [HG.out]; show _ = globHead h; rw [HH.out]; rfl), rfl⟩
    · have hss := hss rfl
      generalize hk : strokeL h = k at *
      have HK := Lib.hid hk
      clear hk
      have hlen : (h.drop (k + 1)).length ≤ 9223372036854775807 := by simp; omega
      go_enter Try.func16, Try.ntmps16
      go_wp2_with fail
      refine (star_is l true _ hl HS).mono ?_
      rintro e w' ⟨rfl, rfl⟩
      go_wp2_with fail
      rw [HX.out]
      refine (scoped_is h true _ hhl HC).mono ?_
      rintro e w' ⟨rfl, rfl⟩
      go_wp2_with fail
      refine (stroke_is h k _ hhl HK).mono ?_
      rintro e w' ⟨rfl, rfl⟩
      go_wp2_with fail
      rw [ext_all]
      refine (rletters_any _ _ hlen).mono ?_
      rintro e w' ⟨rfl, rfl⟩
      go_wp2_with fail
      go_ret
      exact ⟨ret_bool (by rw [HG.out]; show _ = globHead h; rw [HH.out]; rfl), rfl⟩
theorem rglob_is (l : List UInt8) (v : Bool) (w : World) (hl : l.length ≤ 9223372036854775807) (hv : Hid (globL l = v)) :
    Calls Try.prog 16 #[.string ⟨l.toArray⟩] w fun e w' => e = .returned (.bool v) ∧ w = w' := by
  have := rglob_any l w hl
  rwa [hv.out] at this
set_option maxHeartbeats 800000 in
theorem rweight_any (l : List UInt8) (w : World) (hl : l.length ≤ 4611686018427387903) :
    Calls Try.prog 20 #[.string ⟨l.toArray⟩] w fun e w' => e = .returned (.int .i64 (weightL l)) ∧ w = w' := by
  have HW : Hid (weightL l = if globL l then (if starL l then 2 * ((l.length : Int) - 1) else 2 * (l.length : Int) + 1) else -1) := rfl
  have hsp := star_pos l
  generalize hs : starL l = s at *
  generalize hg : globL l = g at *
  have HS := Lib.hid hs
  have HG := Lib.hid hg
  clear hs hg
  cases g
  · clear hsp
    go_enter Try.func20, Try.ntmps20
    go_wp2_with fail
    refine (rglob_is l false _ (by omega) HG).mono ?_
    rintro e w' ⟨rfl, rfl⟩
    go_wp2_with fail
    go_ret
    exact ⟨ret_int (by rw [HW.out]; rfl), rfl⟩
  · cases s
    · clear hsp
      go_enter Try.func20, Try.ntmps20
      go_wp2_with fail
      refine (rglob_is l true _ (by omega) HG).mono ?_
      rintro e w' ⟨rfl, rfl⟩
      go_wp2_with fail
      refine (star_is l false _ (by omega) HS).mono ?_
      rintro e w' ⟨rfl, rfl⟩
      go_wp2_with fail
      go_ret
      exact ⟨ret_int (by rw [HW.out]; rfl), rfl⟩
    · have hsp := hsp rfl
      go_enter Try.func20, Try.ntmps20
      go_wp2_with fail
      refine (rglob_is l true _ (by omega) HG).mono ?_
      rintro e w' ⟨rfl, rfl⟩
      go_wp2_with fail
      refine (star_is l true _ (by omega) HS).mono ?_
      rintro e w' ⟨rfl, rfl⟩
      go_wp2_with fail
      go_ret
      exact ⟨ret_int (by rw [HW.out]; rfl), rfl⟩
theorem match_end (l g : List UInt8) (k : Nat) (h : k = g.length - 1) : (((ByteArray.mk l.toArray).extract 0 k).toList == ((ByteArray.mk g.toArray).extract 0 k).toList) = (true && true && (if true = true then true && l.take k == headL g else g == l)) := by
  subst h
  rw [ext_list, ext_list, Go.ByteArray.toList_eq, Go.ByteArray.toList_eq]
  simp [headL]
/-- nothing but draws -/
def Drawn (w w' : World) : Prop := ∃ m, w' = w.drewN m
theorem Drawn.refl (w : World) : Drawn w w := ⟨0, rfl⟩
theorem Drawn.below {w w' : World} (h : Drawn w w') : Below w.heap.size w w' := by
  obtain ⟨m, rfl⟩ := h
  exact below_drewN (Below.refl _ _) m
theorem Drawn.trans {a b c : World} (h : Drawn a b) (k : Drawn b c) : Drawn a c := by
  obtain ⟨m, rfl⟩ := h
  obtain ⟨n, rfl⟩ := k
  exact ⟨m + n, by rw [World.drewN_drewN]⟩
set_option maxHeartbeats 1600000 in
theorem rmatch_any (g l : List UInt8) (w : World) (hg : g.length ≤ 4611686018427387903) (hl : l.length ≤ 4611686018427387903) :
    Calls Try.prog 18 #[.string ⟨g.toArray⟩, .string ⟨l.toArray⟩] w fun e w' => e = .returned (.bool (matchL g l)) ∧ Drawn w w' := by
  have HM : Hid (matchL g l = (globL g && checkL l && (if starL g then decide (g.length - 1 ≤ l.length) && l.take (g.length - 1) == headL g else g == l))) := rfl
  have hsp := star_pos g
  generalize hs : starL g = s at *
  generalize hgl : globL g = q at *
  generalize hcl : checkL l = c at *
  have HS := Lib.hid hs
  have HG := Lib.hid hgl
  have HC := Lib.hid hcl
  clear hs hgl hcl
  cases q
  · clear hsp
    go_enter Try.func18, Try.ntmps18
    go_wp2_with fail
    refine (rglob_is g false _ (by omega) HG).mono ?_
    rintro e w' ⟨rfl, rfl⟩
    go_wp2_with fail
    go_ret
    exact ⟨ret_bool (by rw [HM.out]; rfl), Drawn.refl _⟩
  · cases c
    · clear hsp
      go_enter Try.func18, Try.ntmps18
      go_wp2_with fail
      refine (rglob_is g true _ (by omega) HG).mono ?_
      rintro e w' ⟨rfl, rfl⟩
      go_wp2_with fail
      refine (rcheck_is l false _ (by omega) HC).mono ?_
      rintro e w' ⟨rfl, rfl⟩
      go_wp2_with fail
      go_ret
      exact ⟨ret_bool (by rw [HM.out]; rfl), Drawn.refl _⟩
    · cases s
      · clear hsp
        go_enter Try.func18, Try.ntmps18
        go_wp2_with fail
        refine (rglob_is g true _ (by omega) HG).mono ?_
        rintro e w' ⟨rfl, rfl⟩
        go_wp2_with fail
        refine (rcheck_is l true _ (by omega) HC).mono ?_
        rintro e w' ⟨rfl, rfl⟩
        go_wp2_with fail
        refine (star_is g false _ (by omega) HS).mono ?_
        rintro e w' ⟨rfl, rfl⟩
        go_wp2_with fail
        go_ret
        exact ⟨ret_bool (by rw [HM.out]; rfl), Drawn.refl _⟩
      · have hsp := hsp rfl
        have hk1 : ((g.length : Int) - 1).toNat = g.length - 1 := by omega
        by_cases hle : g.length - 1 ≤ l.length
        · have hd : decide ((g.length : Int) - 1 ≤ (l.length : Int)) = true := by simp; omega
          have hd2 : decide ((g.length : Int) ≤ (l.length : Int) + 1) = true := by simp; omega
          have f1 : (0 : Int) ≤ (g.length : Int) - 1 := by omega
          have f2 : (g.length : Int) - 1 ≤ (l.length : Int) := by omega
          have f3 : (g.length : Int) - 1 ≤ (g.length : Int) := by omega
          go_enter Try.func18, Try.ntmps18
          go_wp2_with fail
          refine (rglob_is g true _ (by omega) HG).mono ?_
          rintro e w' ⟨rfl, rfl⟩
          go_wp2_with fail
          refine (rcheck_is l true _ (by omega) HC).mono ?_
          rintro e w' ⟨rfl, rfl⟩
          go_wp2_with fail
          refine (star_is g true _ (by omega) HS).mono ?_
          rintro e w' ⟨rfl, rfl⟩
          go_wp2_with fail
          go_quiet (fail)
          go_wp2_with fail
          go_ret
          refine ⟨ret_bool ?_, ⟨_, rfl⟩⟩
          rw [HM.out, decide_eq_true hle]
          exact match_end l g _ rfl
        · have hd : decide ((g.length : Int) - 1 ≤ (l.length : Int)) = false := by simp; omega
          have hd2 : decide ((g.length : Int) ≤ (l.length : Int) + 1) = false := by simp; omega
          go_enter Try.func18, Try.ntmps18
          go_wp2_with fail
          refine (rglob_is g true _ (by omega) HG).mono ?_
          rintro e w' ⟨rfl, rfl⟩
          go_wp2_with fail
          refine (rcheck_is l true _ (by omega) HC).mono ?_
          rintro e w' ⟨rfl, rfl⟩
          go_wp2_with fail
          refine (star_is g true _ (by omega) HS).mono ?_
          rintro e w' ⟨rfl, rfl⟩
          go_wp2_with fail
          go_quiet (fail)
          go_wp2_with fail
          go_ret
          refine ⟨ret_bool ?_, ⟨_, rfl⟩⟩
          rw [HM.out, decide_eq_false hle]
          rfl
end Go.Proofs.Ytolmhigekkoikaa
