/- Contracts of the walks of name.Split, Check, Glob, Match, Weight: each returns what its plain Lean function says; no condition but that the text's length fits. -/
import Derived.Test.YtolmhigekkoikaaNamE
namespace Go.Proofs.Ytolmhigekkoikaa
open Go.RowKit
set_option linter.unusedVariables false
theorem bthen {a b c : World} (h : Below a.heap.size a b) (k : Below b.heap.size b c) : Below a.heap.size a c := h.trans (k.mono h.size)
theorem stroke_cons (c : UInt8) (t : List UInt8) (h : ¬ c.toNat = 47) : strokeL (c :: t) = strokeL t + 1 := by
  unfold strokeL
  have : (c != 47) = true := by
    rw [bne_iff_ne]; rintro rfl; exact h rfl
  rw [List.takeWhile_cons, if_pos this, List.length_cons]
theorem split_at (l : List UInt8) (h0 : 0 < l.length) (h : by8 l 0 = 64) :
    strokeL l = strokeL (l.drop 1) + 1 ∧ (l.drop 1).length + 1 = l.length ∧
    (strokeL (l.drop 1) < (l.drop 1).length → scopeL l = (l.drop 1).take (strokeL (l.drop 1)) ∧ restL l = (l.drop 1).drop (strokeL (l.drop 1) + 1)) ∧
    (¬ strokeL (l.drop 1) < (l.drop 1).length → scopeL l = [] ∧ restL l = l) := by
  cases l with
  | nil => simp at h0
  | cons c t =>
    rw [by8_cons_zero] at h
    have e := stroke_cons c t (by omega)
    simp only [List.drop_succ_cons, List.drop_zero, List.length_cons]
    refine ⟨e, trivial, fun hs => ?_, fun hs => ?_⟩
    · have hh : hasScope (c :: t) = true := by
        unfold hasScope; rw [e, by8_cons_zero, h, decide_eq_true (by simp; omega)]; rfl
      unfold scopeL restL
      rw [hh, if_pos rfl, if_pos rfl, e]
      exact ⟨rfl, rfl⟩
    · have hh : hasScope (c :: t) = false := by
        unfold hasScope; rw [e, decide_eq_false (by simp; omega)]; rfl
      unfold scopeL restL
      rw [hh]
      exact ⟨rfl, rfl⟩
theorem split_not (l : List UInt8) (h : ¬ by8 l 0 = 64) : scopeL l = [] ∧ restL l = l := by
  have hh : hasScope l = false := by unfold hasScope; rw [beq_eq_false_iff_ne.2 h]; simp
  unfold scopeL restL
  rw [hh]
  exact ⟨rfl, rfl⟩
set_option maxHeartbeats 800000 in
theorem split_any (l : List UInt8) (w : World) (hl : l.length ≤ 9223372036854775807) :
    Calls Try.prog 9 #[.string ⟨l.toArray⟩] w fun e w' => e = .returned (.tuple #[.string ⟨(scopeL l).toArray⟩, .string ⟨(restL l).toArray⟩]) ∧ Below w.heap.size w w' := by
  by_cases h64 : by8 l 0 = 64
  · have hpos : 0 < l.length := by
      cases l with
      | nil => exact absurd h64 (by simp [by8])
      | cons => simp
    obtain ⟨_, hlen, hyes, hno⟩ := split_at l hpos h64
    have H64 := Lib.hid h64
    have htl : (l.drop 1).length ≤ 9223372036854775807 := by omega
    generalize ht : l.drop 1 = t at *
    have HT := Lib.hid ht
    clear h64 ht
    by_cases hs : strokeL t < t.length
    · have H1 := Lib.hid (hyes hs).1
      have H2 := Lib.hid (hyes hs).2
      generalize hk : strokeL t = k at *
      have HK := Lib.hid hk
      clear hk hyes hno
      go_enter Try.func9, Try.ntmps9
      go_wp2_with fail
      refine (cutPrefix_yes l _ hl hpos H64).mono ?_
      rintro e w' ⟨rfl, rfl⟩
      rw [HT.out]
      go_wp2_with fail
      refine (cut_yes t k _ htl HK hs).mono ?_
      rintro e w1 ⟨rfl, hb1⟩
      go_wp2_with fail
      go_ret2
      exact ⟨tuple2_str (by rw [H1.out]) (by rw [H2.out]), hb1⟩
    · have H1 := Lib.hid (hno hs).1
      have H2 := Lib.hid (hno hs).2
      have HS := Lib.hid hs
      clear hyes hno hs
      go_enter Try.func9, Try.ntmps9
      go_wp2_with fail
      refine (cutPrefix_yes l _ hl hpos H64).mono ?_
      rintro e w' ⟨rfl, rfl⟩
      rw [HT.out]
      go_wp2_with fail
      refine (cut_no t _ htl HS).mono ?_
      rintro e w1 ⟨rfl, rfl⟩
      go_wp2_with fail
      go_ret2
      exact ⟨tuple2_str (by rw [H1.out]) (by rw [H2.out]), Below.refl _ _⟩
  · have H1 := Lib.hid (split_not l h64).1
    have H2 := Lib.hid (split_not l h64).2
    have H64 := Lib.hid h64
    clear h64
    go_enter Try.func9, Try.ntmps9
    go_wp2_with fail
    refine (cutPrefix_no l _ hl H64).mono ?_
    rintro e w' ⟨rfl, rfl⟩
    go_wp2_with fail
    go_ret2
    exact ⟨tuple2_str (by rw [H1.out]) (by rw [H2.out]), Below.refl _ _⟩
theorem split_is (l a b : List UInt8) (w : World) (hl : l.length ≤ 9223372036854775807) (ha : Hid (scopeL l = a)) (hb : Hid (restL l = b)) :
    Calls Try.prog 9 #[.string ⟨l.toArray⟩] w fun e w' => e = .returned (.tuple #[.string ⟨a.toArray⟩, .string ⟨b.toArray⟩]) ∧ Below w.heap.size w w' := by
  have := split_any l w hl
  rwa [ha.out, hb.out] at this
theorem scope_le (l : List UInt8) : (scopeL l).length ≤ l.length := by
  unfold scopeL; split
  · simp; omega
  · simp
theorem rest_le (l : List UInt8) : (restL l).length ≤ l.length := by
  unfold restL; split
  · simp
  · exact Nat.le_refl _
/-- what the program asks of the two parts of a split text -/
theorem parts_ok (l : List UInt8) (p : List UInt8 → Bool) : (p (restL l) && ((scopeL l).isEmpty && restL l == l || plainL (scopeL l))) = if hasScope l then plainL (scopeL l) && p (restL l) else p l := by
  by_cases h : hasScope l = true
  · have hr : restL l = l.drop (strokeL l + 1) := by unfold restL; rw [h]; rfl
    have hlt : strokeL l < l.length := by unfold hasScope at h; simp at h; exact h.1
    have hne : (restL l == l) = false := by
      rw [beq_eq_false_iff_ne, hr]
      intro e
      have := congrArg List.length e
      rw [List.length_drop] at this
      omega
    rw [if_pos h, hne]
    simp [Bool.and_comm]
  · have h1 : scopeL l = [] := by unfold scopeL; rw [if_neg h]
    have h2 : restL l = l := by unfold restL; rw [if_neg h]
    rw [if_neg h, h1, h2]
    simp
set_option maxHeartbeats 800000 in
theorem check_any (l : List UInt8) (w : World) (hl : l.length ≤ 9223372036854775807) :
    Calls Try.prog 13 #[.string ⟨l.toArray⟩] w fun e w' => e = .returned (.bool (checkL l)) ∧ Below w.heap.size w w' := by
  have HC : Hid ((plainL (restL l) && ((scopeL l).isEmpty && restL l == l || plainL (scopeL l))) = checkL l) := parts_ok l plainL
  have la := scope_le l
  have lb := rest_le l
  generalize ha : scopeL l = a at *
  generalize hb : restL l = b at *
  have HA := Lib.hid ha
  have HB := Lib.hid hb
  generalize hp : plainL b = p at *
  generalize hq : plainL a = q at *
  generalize he : a.isEmpty = x at *
  generalize hf : (b == l) = y at *
  have HP := Lib.hid hp
  have HQ := Lib.hid hq
  clear ha hb hp hq
  cases p
  · go_enter Try.func13, Try.ntmps13
    go_wp2_with fail
    refine (split_is l a b _ hl HA HB).mono ?_
    rintro e w1 ⟨rfl, hb1⟩
    go_wp2_with fail
    refine (plain_is b false _ (by omega) HP).mono ?_
    rintro e w2 ⟨rfl, rfl⟩
    go_wp2_with fail
    go_ret
    exact ⟨ret_bool (by rw [← HC.out]; rfl), hb1⟩
  · cases x
    · go_enter Try.func13, Try.ntmps13
      go_wp2_with fail
      refine (split_is l a b _ hl HA HB).mono ?_
      rintro e w1 ⟨rfl, hb1⟩
      go_wp2_with fail
      refine (plain_is b true _ (by omega) HP).mono ?_
      rintro e w2 ⟨rfl, rfl⟩
      go_wp2_with fail
      refine (plain_is a q _ (by omega) HQ).mono ?_
      rintro e w2 ⟨rfl, rfl⟩
      go_wp2_with fail
      go_ret
      exact ⟨ret_bool (by rw [← HC.out]; rfl), hb1⟩
    · cases y
      · go_enter Try.func13, Try.ntmps13
        go_wp2_with fail
        refine (split_is l a b _ hl HA HB).mono ?_
        rintro e w1 ⟨rfl, hb1⟩
        go_wp2_with fail
        refine (plain_is b true _ (by omega) HP).mono ?_
        rintro e w2 ⟨rfl, rfl⟩
        go_wp2_with fail
        refine (plain_is a q _ (by omega) HQ).mono ?_
        rintro e w2 ⟨rfl, rfl⟩
        go_wp2_with fail
        go_ret
        exact ⟨ret_bool (by rw [← HC.out]; rfl), hb1⟩
      · go_enter Try.func13, Try.ntmps13
        go_wp2_with fail
        refine (split_is l a b _ hl HA HB).mono ?_
        rintro e w1 ⟨rfl, hb1⟩
        go_wp2_with fail
        refine (plain_is b true _ (by omega) HP).mono ?_
        rintro e w2 ⟨rfl, rfl⟩
        go_wp2_with fail
        go_ret
        exact ⟨ret_bool (by rw [← HC.out]; rfl), hb1⟩
theorem check_is (l : List UInt8) (v : Bool) (w : World) (hl : l.length ≤ 9223372036854775807) (hv : Hid (checkL l = v)) :
    Calls Try.prog 13 #[.string ⟨l.toArray⟩] w fun e w' => e = .returned (.bool v) ∧ Below w.heap.size w w' := by
  have := check_any l w hl
  rwa [hv.out] at this
end Go.Proofs.Ytolmhigekkoikaa
