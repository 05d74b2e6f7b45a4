/- Contracts of the walks of name.Glob, Match, Weight: each returns what its plain Lean function says; no condition but that the text's length fits. -/
import Derived.Test.YtolmhigekkoikaaNamF
namespace Go.Proofs.Ytolmhigekkoikaa
open Go.RowKit
set_option linter.unusedVariables false
set_option maxHeartbeats 1600000 in
theorem glob_any (l : List UInt8) (w : World) (hl : l.length ≤ 9223372036854775807) :
    Calls Try.prog 15 #[.string ⟨l.toArray⟩] w fun e w' => e = .returned (.bool (globL l)) ∧ Below w.heap.size w w' := by
  have HG : Hid (globL l = if starL l then globHead (headL l) else checkL l) := rfl
  generalize hs : starL l = s at *
  have HS := Lib.hid hs
  clear hs
  cases s
  · go_enter Try.func15, Try.ntmps15
    go_wp2_with fail
    refine (cutSuffix_no l _ hl HS).mono ?_
    rintro e w' ⟨rfl, rfl⟩
    go_wp2_with fail
    refine (check_any l _ hl).mono ?_
    rintro e w1 ⟨rfl, hb1⟩
    go_wp2_with fail
    go_ret
    exact ⟨ret_bool (by rw [HG.out]; rfl), hb1⟩
  · have hhl : (headL l).length ≤ 9223372036854775807 := by rw [headL_length]; omega
    have HC : Hid ((frontL (restL (headL l)) && ((scopeL (headL l)).isEmpty && restL (headL l) == headL l || plainL (scopeL (headL l)))) = globL l) := by
      rw [HG.out]; exact parts_ok (headL l) frontL
    generalize hh : headL l = h at *
    have HH := Lib.hid hh
    clear hh
    have la := scope_le h
    have lb := rest_le h
    generalize ha : scopeL h = a at *
    generalize hb : restL h = b at *
    have HA := Lib.hid ha
    have HB := Lib.hid hb
    generalize hp : frontL b = p at *
    generalize hq : plainL a = q at *
    generalize he : a.isEmpty = x at *
    generalize hf : (b == h) = y at *
    have HP := Lib.hid hp
    have HQ := Lib.hid hq
    clear ha hb hp hq
    cases p
    · go_enter Try.func15, Try.ntmps15
      go_wp2_with fail
      refine (cutSuffix_yes l _ hl HS).mono ?_
      rintro e w' ⟨rfl, rfl⟩
      rw [HH.out]
      go_wp2_with fail
      refine (split_is h a b _ hhl HA HB).mono ?_
      rintro e w1 ⟨rfl, hb1⟩
      go_wp2_with fail
      refine (front_is b false _ (by omega) HP).mono ?_
      rintro e w2 ⟨rfl, rfl⟩
      go_wp2_with fail
      go_ret
      exact ⟨ret_bool (by rw [← HC.out]; rfl), hb1⟩
    · cases x
      · go_enter Try.func15, Try.ntmps15
        go_wp2_with fail
        refine (cutSuffix_yes l _ hl HS).mono ?_
        rintro e w' ⟨rfl, rfl⟩
        rw [HH.out]
        go_wp2_with fail
        refine (split_is h a b _ hhl HA HB).mono ?_
        rintro e w1 ⟨rfl, hb1⟩
        go_wp2_with fail
        refine (front_is b true _ (by omega) HP).mono ?_
        rintro e w2 ⟨rfl, rfl⟩
        go_wp2_with fail
        refine (plain_is a q _ (by omega) HQ).mono ?_
        rintro e w2 ⟨rfl, rfl⟩
        go_wp2_with fail
        go_ret
        exact ⟨ret_bool (by rw [← HC.out]; rfl), hb1⟩
      · cases y
        · go_enter Try.func15, Try.ntmps15
          go_wp2_with fail
          refine (cutSuffix_yes l _ hl HS).mono ?_
          rintro e w' ⟨rfl, rfl⟩
          rw [HH.out]
          go_wp2_with fail
          refine (split_is h a b _ hhl HA HB).mono ?_
          rintro e w1 ⟨rfl, hb1⟩
          go_wp2_with fail
          refine (front_is b true _ (by omega) HP).mono ?_
          rintro e w2 ⟨rfl, rfl⟩
          go_wp2_with fail
          refine (plain_is a q _ (by omega) HQ).mono ?_
          rintro e w2 ⟨rfl, rfl⟩
          go_wp2_with fail
          go_ret
          exact ⟨ret_bool (by rw [← HC.out]; rfl), hb1⟩
        · go_enter Try.func15, Try.ntmps15
          go_wp2_with fail
          refine (cutSuffix_yes l _ hl HS).mono ?_
          rintro e w' ⟨rfl, rfl⟩
          rw [HH.out]
          go_wp2_with fail
          refine (split_is h a b _ hhl HA HB).mono ?_
          rintro e w1 ⟨rfl, hb1⟩
          go_wp2_with fail
          refine (front_is b true _ (by omega) HP).mono ?_
          rintro e w2 ⟨rfl, rfl⟩
          go_wp2_with fail
          go_ret
          exact ⟨ret_bool (by rw [← HC.out]; rfl), hb1⟩
theorem glob_is (l : List UInt8) (v : Bool) (w : World) (hl : l.length ≤ 9223372036854775807) (hv : Hid (globL l = v)) :
    Calls Try.prog 15 #[.string ⟨l.toArray⟩] w fun e w' => e = .returned (.bool v) ∧ Below w.heap.size w w' := by
  have := glob_any l w hl
  rwa [hv.out] at this
set_option maxHeartbeats 800000 in
theorem weight_any (l : List UInt8) (w : World) (hl : l.length ≤ 4611686018427387903) :
    Calls Try.prog 19 #[.string ⟨l.toArray⟩] w fun e w' => e = .returned (.int .i64 (weightL l)) ∧ Below w.heap.size w w' := by
  have HW : Hid (weightL l = if globL l then (if starL l then 2 * ((l.length : Int) - 1) else 2 * (l.length : Int) + 1) else -1) := rfl
  have hsp := star_pos l
  have hhl := headL_length l
  generalize hs : starL l = s at *
  generalize hg : globL l = g at *
  have HS := Lib.hid hs
  have HG := Lib.hid hg
  clear hs hg
  cases g
  · clear hsp
    go_enter Try.func19, Try.ntmps19
    go_wp2_with fail
    refine (glob_is l false _ (by omega) HG).mono ?_
    rintro e w1 ⟨rfl, hb1⟩
    go_wp2_with fail
    go_ret
    exact ⟨ret_int (by rw [HW.out]; rfl), hb1⟩
  · cases s
    · clear hsp
      go_enter Try.func19, Try.ntmps19
      go_wp2_with fail
      refine (glob_is l true _ (by omega) HG).mono ?_
      rintro e w1 ⟨rfl, hb1⟩
      go_wp2_with fail
      refine (cutSuffix_no l _ (by omega) HS).mono ?_
      rintro e w2 ⟨rfl, rfl⟩
      go_wp2_with fail
      go_ret
      exact ⟨ret_int (by rw [HW.out]; rfl), hb1⟩
    · have hsp := hsp rfl
      have HL : Hid ((headL l).length + 1 = l.length) := Lib.hid (by omega)
      have hll : (headL l).length ≤ 4611686018427387903 := by omega
      clear hhl
      generalize hh : headL l = h at *
      have HH := Lib.hid hh
      clear hh
      go_enter Try.func19, Try.ntmps19
      go_wp2_with fail
      refine (glob_is l true _ (by omega) HG).mono ?_
      rintro e w1 ⟨rfl, hb1⟩
      go_wp2_with fail
      refine (cutSuffix_yes l _ (by omega) HS).mono ?_
      rintro e w2 ⟨rfl, rfl⟩
      rw [HH.out]
      go_wp2_with fail
      go_ret
      exact ⟨ret_int (by rw [HW.out, ← HL.out]; show _ = 2 * (((h.length + 1 : Nat) : Int) - 1); omega), hb1⟩
theorem weight_is (l : List UInt8) (v : Int) (w : World) (hl : l.length ≤ 4611686018427387903) (hv : Hid (weightL l = v)) :
    Calls Try.prog 19 #[.string ⟨l.toArray⟩] w fun e w' => e = .returned (.int .i64 v) ∧ Below w.heap.size w w' := by
  have := weight_any l w hl
  rwa [hv.out] at this
theorem take_head (g l : List UInt8) (hg : 0 < g.length) : (decide ((headL g).length ≤ l.length) && l.take (headL g).length == headL g) = (decide (g.length - 1 ≤ l.length) && l.take (g.length - 1) == headL g) := by
  rw [headL_length]
set_option maxHeartbeats 1600000 in
theorem match_any (g l : List UInt8) (w : World) (hg : g.length ≤ 4611686018427387903) (hl : l.length ≤ 4611686018427387903) :
    Calls Try.prog 17 #[.string ⟨g.toArray⟩, .string ⟨l.toArray⟩] w fun e w' => e = .returned (.bool (matchL g l)) ∧ Below w.heap.size w w' := by
  have HM : Hid (matchL g l = (globL g && checkL l && (if starL g then decide (g.length - 1 ≤ l.length) && l.take (g.length - 1) == headL g else g == l))) := rfl
  have hsp := star_pos g
  have HT := Lib.hid (take_head g l)
  have hhl := headL_length g
  generalize hs : starL g = s at *
  generalize hgl : globL g = q at *
  generalize hcl : checkL l = c at *
  have HS := Lib.hid hs
  have HG := Lib.hid hgl
  have HC := Lib.hid hcl
  clear hs hgl hcl
  cases q
  · clear hsp
    go_enter Try.func17, Try.ntmps17
    go_wp2_with fail
    refine (glob_is g false _ (by omega) HG).mono ?_
    rintro e w1 ⟨rfl, hb1⟩
    go_wp2_with fail
    go_ret
    exact ⟨ret_bool (by rw [HM.out]; rfl), hb1⟩
  · cases c
    · clear hsp
      go_enter Try.func17, Try.ntmps17
      go_wp2_with fail
      refine (glob_is g true _ (by omega) HG).mono ?_
      rintro e w1 ⟨rfl, hb1⟩
      go_wp2_with fail
      refine (check_is l false _ (by omega) HC).mono ?_
      rintro e w2 ⟨rfl, hb2⟩
      go_wp2_with fail
      go_ret
      exact ⟨ret_bool (by rw [HM.out]; rfl), bthen hb1 hb2⟩
    · cases s
      · clear hsp
        go_enter Try.func17, Try.ntmps17
        go_wp2_with fail
        refine (glob_is g true _ (by omega) HG).mono ?_
        rintro e w1 ⟨rfl, hb1⟩
        go_wp2_with fail
        refine (check_is l true _ (by omega) HC).mono ?_
        rintro e w2 ⟨rfl, hb2⟩
        go_wp2_with fail
        refine (cutSuffix_no g _ (by omega) HS).mono ?_
        rintro e w3 ⟨rfl, rfl⟩
        go_wp2_with fail
        go_ret
        exact ⟨ret_bool (by rw [HM.out]; rfl), bthen hb1 hb2⟩
      · have hsp := hsp rfl
        have HT := Lib.hid (HT.out hsp)
        have hhl2 : (headL g).length ≤ 9223372036854775807 := by omega
        clear hhl
        go_enter Try.func17, Try.ntmps17
        go_wp2_with fail
        refine (glob_is g true _ (by omega) HG).mono ?_
        rintro e w1 ⟨rfl, hb1⟩
        go_wp2_with fail
        refine (check_is l true _ (by omega) HC).mono ?_
        rintro e w2 ⟨rfl, hb2⟩
        go_wp2_with fail
        refine (cutSuffix_yes g _ (by omega) HS).mono ?_
        rintro e w3 ⟨rfl, rfl⟩
        go_wp2_with fail
        refine (hasPrefix_any l (headL g) _ (by omega) hhl2).mono ?_
        rintro e w3 ⟨rfl, rfl⟩
        go_wp2_with fail
        go_ret
        exact ⟨ret_bool (by rw [HM.out]; exact HT.out), bthen hb1 hb2⟩
theorem match_is (g l : List UInt8) (v : Bool) (w : World) (hg : g.length ≤ 4611686018427387903) (hl : l.length ≤ 4611686018427387903) (hv : Hid (matchL g l = v)) :
    Calls Try.prog 17 #[.string ⟨g.toArray⟩, .string ⟨l.toArray⟩] w fun e w' => e = .returned (.bool v) ∧ Below w.heap.size w w' := by
  have := match_any g l w hg hl
  rwa [hv.out] at this
theorem rmatch_is (g l : List UInt8) (v : Bool) (w : World) (hg : g.length ≤ 4611686018427387903) (hl : l.length ≤ 4611686018427387903) (hv : Hid (matchL g l = v)) :
    Calls Try.prog 18 #[.string ⟨g.toArray⟩, .string ⟨l.toArray⟩] w fun e w' => e = .returned (.bool v) ∧ Drawn w w' := by
  have := rmatch_any g l w hg hl
  rwa [hv.out] at this
theorem rweight_is (l : List UInt8) (v : Int) (w : World) (hl : l.length ≤ 4611686018427387903) (hv : Hid (weightL l = v)) :
    Calls Try.prog 20 #[.string ⟨l.toArray⟩] w fun e w' => e = .returned (.int .i64 v) ∧ w = w' := by
  have := rweight_any l w hl
  rwa [hv.out] at this
end Go.Proofs.Ytolmhigekkoikaa
