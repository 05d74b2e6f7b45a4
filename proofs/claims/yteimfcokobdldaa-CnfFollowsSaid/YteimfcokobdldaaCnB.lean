/- Formulas: whether they are few, and may be. -/
import Derived.Test.YteimfcokobdldaaCnA
namespace Go.Proofs.Yteimfcokobdldaa
open Go.RowKit
set_option linter.unusedVariables false
def chkF (n : Int) (LL : List (List Int)) : Int := if n < 0 ∨ 400 < n then 8 else if 8000 < LL.length then 2 else if LL.all (okC n) = true then 0 else 8
theorem few_stop {LL : List (List Int)} {n : Nat} {k : Nat} (hk : k < LL.length) (h : n < (LL.getD k []).length) : ∃ c ∈ LL, n < c.length := by
  have e : LL.getD k [] = LL[k] := by simp [hk]
  rw [e] at h
  exact ⟨_, List.getElem_mem hk, h⟩
def fewP (LL : List (List Int)) (many long : Nat) : Prop := LL.length ≤ many ∧ ∀ c ∈ LL, c.length ≤ long
instance (LL : List (List Int)) (many long : Nat) : Decidable (fewP LL many long) := by unfold fewP; infer_instance
set_option maxHeartbeats 800000 in
theorem few_any (a : Option Addr) (cap : Nat) (LL : List (List Int)) (many long : Nat) (w : World) (h : RowOf 1 IntsC w (.slice a LL.length cap) LL) (hm : many ≤ 1000000) (hl : long ≤ 1000000) (v : Bool) (hv : Hid (decide (fewP LL many long) = v)) :
    Calls Try.prog 11 #[.slice a LL.length cap, .int .i64 many, .int .i64 long] w fun e w' => e = .returned (.bool v) ∧ w = w' := by
  have hmx := h.len
  unfold maxLen at hmx
  have H := Lib.hid h
  clear h
  by_cases hmany : many < LL.length
  · obtain rfl : v = false := by rw [← hv.out]; exact decide_eq_false (fun hh => by have := hh.1; omega)
    have hd : decide ((many : Int) < (LL.length : Int)) = true := decide_eq_true (by omega)
    have hd' : decide (many < LL.length) = true := decide_eq_true hmany
    clear hv
    go_enter Try.func11, Try.ntmps11
    go_wp2_with fail
    go_ret
    exact ⟨rfl, rfl⟩
  · have hd : decide ((many : Int) < (LL.length : Int)) = false := decide_eq_false (by omega)
    have hd' : decide (many < LL.length) = false := decide_eq_false hmany
    go_enter Try.func11, Try.ntmps11
    go_wp2_with fail
    go_loop [7] (fun i => ∃ k : Nat, i = .int .i64 k ∧ k ≤ LL.length ∧ ∀ c ∈ LL.take k, c.length ≤ long) (fun i => LL.length - (intOf i).toNat)
    case atStart => exact ⟨0, rfl, Nat.zero_le _, by simp⟩
    case round =>
      obtain ⟨k, rfl, hk, hok⟩ := hrel
      have HOK := Lib.hid hok
      clear hok
      have k0 : (0 : Int) ≤ (k : Int) := by omega
      by_cases hlt : k < LL.length
      · have k1 : (k : Int) < (LL.length : Int) := by omega
        have hdk : decide (k < LL.length) = true := decide_eq_true hlt
        obtain ⟨b, off, va, vc, rfl, _, hc, _, _⟩ := ints_row H.out k hlt
        have HST := Lib.hid (fun h => @few_stop LL long k hlt h)
        have HTK : Hid ((LL.getD k []).length ≤ long → ∀ c ∈ LL.take (k + 1), c.length ≤ long) := Lib.hid (fun h c hc => by
          rw [List.take_succ_eq_append_getElem hlt] at hc
          have e : LL.getD k [] = LL[k] := by simp [hlt]
          rw [e] at h
          rcases List.mem_append.1 hc with hc | hc
          · exact HOK.out c hc
          · rw [List.mem_singleton] at hc; subst hc; exact h)
        obtain ⟨n, hn⟩ : ∃ n, (LL.getD k []).length = n := ⟨_, rfl⟩
        rw [hn] at hc HST HTK
        clear hn
        by_cases hlong : long < n
        · have hd2 : decide ((long : Int) < (n : Int)) = true := decide_eq_true (by omega)
          have hd2' : decide (long < n) = true := decide_eq_true hlong
          have HV : Hid (v = false) := Lib.hid (by
            obtain ⟨c, hc1, hc2⟩ := HST.out hlong
            rw [← hv.out]; exact decide_eq_false (fun hh => by have := hh.2 c hc1; omega))
          go_wp2_with fail
          go_ret
          exact ⟨ret_bool HV.out.symm, rfl⟩
        · have hd2 : decide ((long : Int) < (n : Int)) = false := decide_eq_false (by omega)
          have hd2' : decide (long < n) = false := decide_eq_false hlong
          have HNX := Lib.hid (HTK.out (by omega))
          go_wp2_with fail
          go_round
          case rel => exact ⟨k + 1, by go_num, by omega, HNX.out⟩
          case measure => simp [intOf]; omega
      · have hdk : decide (k < LL.length) = false := decide_eq_false hlt
        have HV : Hid (v = true) := Lib.hid (by
          rw [← hv.out]
          refine decide_eq_true ⟨by omega, ?_⟩
          have := HOK.out
          rwa [List.take_of_length_le (by omega)] at this)
        have HLT := Lib.hid hlt
        clear hlt
        go_wp2_with fail
        go_ret
        exact ⟨ret_bool HV.out.symm, rfl⟩
set_option maxHeartbeats 1600000 in
theorem check_any (a : Option Addr) (cap : Nat) (LL : List (List Int)) (n : Int) (w : World) (h : RowOf 1 IntsC w (.slice a LL.length cap) LL) (hn : n ≤ 9223372036854775807) (v : Int) (hv : Hid (chkF n LL = v)) :
    Calls Try.prog 12 #[.agg #[.int .i64 n, .slice a LL.length cap]] w fun e w' => e = .returned (.int .i64 v) ∧ Below w.heap.size w w' := by
  have hmx := h.len
  unfold maxLen at hmx
  have HR := Lib.hid (h.below intsC_lasts ((Below.refl _ _).alloc (Nat.le_refl _) (.cells #[.int .i64 n, .slice a LL.length cap] 26)))
  clear h
  by_cases h0 : n < 0
  · have hd : decide (n < 0) = true := decide_eq_true h0
    have HV : Hid (8 = v) := Lib.hid (by rw [← hv.out]; unfold chkF; rw [if_pos (.inl h0)])
    go_enter Try.func12, Try.ntmps12
    go_wp2_with fail
    go_ret
    exact ⟨ret_int HV.out, (Below.refl _ _).alloc (Nat.le_refl _) _⟩
  have hd : decide (n < 0) = false := decide_eq_false h0
  by_cases h4 : 400 < n
  · have hd2 : decide (400 < n) = true := decide_eq_true h4
    have HV : Hid (8 = v) := Lib.hid (by rw [← hv.out]; unfold chkF; rw [if_pos (.inr h4)])
    go_enter Try.func12, Try.ntmps12
    go_wp2_with fail
    go_ret
    exact ⟨ret_int HV.out, (Below.refl _ _).alloc (Nat.le_refl _) _⟩
  have hd2 : decide (400 < n) = false := decide_eq_false h4
  by_cases h8 : 8000 < LL.length
  · have hd3 : decide (8000 < LL.length) = true := decide_eq_true h8
    have hd4 : decide ((8000 : Int) < (LL.length : Int)) = true := decide_eq_true (by omega)
    have HV : Hid (2 = v) := Lib.hid (by rw [← hv.out]; unfold chkF; rw [if_neg (show ¬ (n < 0 ∨ 400 < n) from by omega), if_pos h8])
    go_enter Try.func12, Try.ntmps12
    go_wp2_with fail
    go_ret
    exact ⟨ret_int HV.out, (Below.refl _ _).alloc (Nat.le_refl _) _⟩
  have hd3 : decide (8000 < LL.length) = false := decide_eq_false h8
  have hd4 : decide ((8000 : Int) < (LL.length : Int)) = false := decide_eq_false (by omega)
  have HV : Hid ((if LL.all (okC n) = true then 0 else 8) = v) := Lib.hid (by rw [← hv.out]; unfold chkF; rw [if_neg (show ¬ (n < 0 ∨ 400 < n) from by omega), if_neg h8])
  have hm0 : max n 0 = n := by omega
  have HM0 := Lib.hid hm0
  clear hm0
  go_enter Try.func12, Try.ntmps12
  go_wp2_with fail
  go_loop [23] (fun i => ∃ k : Nat, i = .int .i64 k ∧ k ≤ LL.length ∧ (LL.take k).all (okC n) = true) (fun i => LL.length - (intOf i).toNat)
  case atStart => exact ⟨0, rfl, Nat.zero_le _, rfl⟩
  case round =>
    obtain ⟨k, rfl, hk, hok⟩ := hrel
    have HOK := Lib.hid hok
    clear hok
    have k0 : (0 : Int) ≤ (k : Int) := by omega
    by_cases hlt : k < LL.length
    · have k1 : (k : Int) < (LL.length : Int) := by omega
      have hdk : decide (k < LL.length) = true := decide_eq_true hlt
      obtain ⟨b, off, va, vc, rfl, _, hc, hrw, _⟩ := ints_row HR.out k hlt
      have e : LL.getD k [] = LL[k] := by simp [hlt]
      have HTK := Lib.hid (List.take_succ_eq_append_getElem hlt)
      have HMEM := Lib.hid (List.getElem_mem hlt)
      rw [← e] at HTK HMEM
      clear e
      obtain ⟨c, hcc⟩ : ∃ c, LL.getD k [] = c := ⟨_, rfl⟩
      rw [hcc] at hc hrw HTK HMEM
      have HRW := Lib.hid hrw
      clear hrw hcc
      cases hf : okC n c with
      | false =>
        have HF : Hid (okC (max n 0) c = false) := Lib.hid (by rw [HM0.out]; exact hf)
        have HVV : Hid (8 = v) := Lib.hid (by
          rw [← HV.out, if_neg]
          intro ha
          have := List.all_eq_true.1 ha _ HMEM.out
          rw [hf] at this; cases this)
        clear hf
        go_wp2_with fail
        refine (checkClause_any va vc c n _ HRW.out hn false HF).mono ?_
        rintro e w1 ⟨rfl, rfl⟩
        go_wp2_with fail
        go_ret
        exact ⟨ret_int HVV.out, (Below.refl _ _).alloc (Nat.le_refl _) _⟩
      | true =>
        have HF : Hid (okC (max n 0) c = true) := Lib.hid (by rw [HM0.out]; exact hf)
        have HNX : Hid ((LL.take (k + 1)).all (okC n) = true) := Lib.hid (by rw [HTK.out, List.all_append, HOK.out]; simp [hf])
        clear hf
        go_wp2_with fail
        refine (checkClause_any va vc c n _ HRW.out hn true HF).mono ?_
        rintro e w1 ⟨rfl, rfl⟩
        go_wp2_with fail
        go_round
        case rel => exact ⟨k + 1, by go_num, by omega, HNX.out⟩
        case measure => simp [intOf]; omega
    · have hdk : decide (k < LL.length) = false := decide_eq_false hlt
      have HVV : Hid (0 = v) := Lib.hid (by
        have := HOK.out
        rw [List.take_of_length_le (by omega)] at this
        rw [← HV.out, if_pos this])
      have HLT := Lib.hid hlt
      clear hlt
      go_wp2_with fail
      go_ret
      exact ⟨ret_int HVV.out, (Below.refl _ _).alloc (Nat.le_refl _) _⟩
set_option maxHeartbeats 1600000 in
theorem rcheck_any (a : Option Addr) (cap : Nat) (LL : List (List Int)) (n : Int) (w : World) (h : RowOf 1 IntsC w (.slice a LL.length cap) LL) (hn : n ≤ 9223372036854775807) (v : Int) (hv : Hid (chkF n LL = v)) :
    Calls Try.prog 13 #[.int .i64 n, .slice a LL.length cap] w fun e w' => e = .returned (.int .i64 v) ∧ w = w' := by
  have hmx := h.len
  unfold maxLen at hmx
  have HR := Lib.hid h
  clear h
  by_cases h0 : n < 0
  · have hd : decide (n < 0) = true := decide_eq_true h0
    have HV : Hid (8 = v) := Lib.hid (by rw [← hv.out]; unfold chkF; rw [if_pos (.inl h0)])
    go_enter Try.func13, Try.ntmps13
    go_wp2_with fail
    go_ret
    exact ⟨ret_int HV.out, rfl⟩
  have hd : decide (n < 0) = false := decide_eq_false h0
  by_cases h4 : 400 < n
  · have hd2 : decide (400 < n) = true := decide_eq_true h4
    have HV : Hid (8 = v) := Lib.hid (by rw [← hv.out]; unfold chkF; rw [if_pos (.inr h4)])
    go_enter Try.func13, Try.ntmps13
    go_wp2_with fail
    go_ret
    exact ⟨ret_int HV.out, rfl⟩
  have hd2 : decide (400 < n) = false := decide_eq_false h4
  by_cases h8 : 8000 < LL.length
  · have hd3 : decide (8000 < LL.length) = true := decide_eq_true h8
    have hd4 : decide ((8000 : Int) < (LL.length : Int)) = true := decide_eq_true (by omega)
    have HV : Hid (2 = v) := Lib.hid (by rw [← hv.out]; unfold chkF; rw [if_neg (show ¬ (n < 0 ∨ 400 < n) from by omega), if_pos h8])
    go_enter Try.func13, Try.ntmps13
    go_wp2_with fail
    go_ret
    exact ⟨ret_int HV.out, rfl⟩
  have hd3 : decide (8000 < LL.length) = false := decide_eq_false h8
  have hd4 : decide ((8000 : Int) < (LL.length : Int)) = false := decide_eq_false (by omega)
  have HV : Hid ((if LL.all (okC n) = true then 0 else 8) = v) := Lib.hid (by rw [← hv.out]; unfold chkF; rw [if_neg (show ¬ (n < 0 ∨ 400 < n) from by omega), if_neg h8])
  have hm0 : max n 0 = n := by omega
  have HM0 := Lib.hid hm0
  clear hm0
  go_enter Try.func13, Try.ntmps13
  go_wp2_with fail
  go_loop [5] (fun i => ∃ k : Nat, i = .int .i64 k ∧ k ≤ LL.length ∧ (LL.take k).all (okC n) = true) (fun i => LL.length - (intOf i).toNat)
  case atStart => exact ⟨0, rfl, Nat.zero_le _, rfl⟩
  case round =>
    obtain ⟨k, rfl, hk, hok⟩ := hrel
    have HOK := Lib.hid hok
    clear hok
    have k0 : (0 : Int) ≤ (k : Int) := by omega
    by_cases hlt : k < LL.length
    · have k1 : (k : Int) < (LL.length : Int) := by omega
      have hdk : decide (k < LL.length) = true := decide_eq_true hlt
      obtain ⟨b, off, va, vc, rfl, _, hc, hrw, _⟩ := ints_row HR.out k hlt
      have e : LL.getD k [] = LL[k] := by simp [hlt]
      have HTK := Lib.hid (List.take_succ_eq_append_getElem hlt)
      have HMEM := Lib.hid (List.getElem_mem hlt)
      rw [← e] at HTK HMEM
      clear e
      obtain ⟨c, hcc⟩ : ∃ c, LL.getD k [] = c := ⟨_, rfl⟩
      rw [hcc] at hc hrw HTK HMEM
      have HRW := Lib.hid hrw
      clear hrw hcc
      cases hf : okC n c with
      | false =>
        have HF : Hid (okC (max n 0) c = false) := Lib.hid (by rw [HM0.out]; exact hf)
        have HVV : Hid (8 = v) := Lib.hid (by
          rw [← HV.out, if_neg]
          intro ha
          have := List.all_eq_true.1 ha _ HMEM.out
          rw [hf] at this; cases this)
        clear hf
        go_wp2_with fail
        refine (rcheckClause_any va vc c n _ HRW.out hn false HF).mono ?_
        rintro e w1 ⟨rfl, rfl⟩
        go_wp2_with fail
        go_ret
        exact ⟨ret_int HVV.out, rfl⟩
      | true =>
        have HF : Hid (okC (max n 0) c = true) := Lib.hid (by rw [HM0.out]; exact hf)
        have HNX : Hid ((LL.take (k + 1)).all (okC n) = true) := Lib.hid (by rw [HTK.out, List.all_append, HOK.out]; simp [hf])
        clear hf
        go_wp2_with fail
        refine (rcheckClause_any va vc c n _ HRW.out hn true HF).mono ?_
        rintro e w1 ⟨rfl, rfl⟩
        go_wp2_with fail
        go_round
        case rel => exact ⟨k + 1, by go_num, by omega, HNX.out⟩
        case measure => simp [intOf]; omega
    · have hdk : decide (k < LL.length) = false := decide_eq_false hlt
      have HVV : Hid (0 = v) := Lib.hid (by
        have := HOK.out
        rw [List.take_of_length_le (by omega)] at this
        rw [← HV.out, if_pos this])
      have HLT := Lib.hid hlt
      clear hlt
      go_wp2_with fail
      go_ret
      exact ⟨ret_int HVV.out, rfl⟩
end Go.Proofs.Yteimfcokobdldaa
