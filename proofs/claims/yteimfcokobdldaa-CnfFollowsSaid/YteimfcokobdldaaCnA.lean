/- Literals and clauses: the program's and the reference's checks. -/
import Derived.Test.YteimfcokobdldaaInts
namespace Go.Proofs.Yteimfcokobdldaa
open Go.RowKit
set_option linter.unusedVariables false
/-- is it a literal over so many variables? -/
def fitB (n x : Int) : Bool := !(x == 0) && decide (-n ≤ x) && decide (x ≤ n)
def okC (n : Int) (c : List Int) : Bool := c.all (fitB n)
theorem fitB_cases (n x : Int) : (x = 0 ∧ fitB n x = false) ∨ (x ≠ 0 ∧ x < -n ∧ fitB n x = false) ∨ (x ≠ 0 ∧ -n ≤ x ∧ n < x ∧ fitB n x = false) ∨ (x ≠ 0 ∧ -n ≤ x ∧ x ≤ n ∧ fitB n x = true) := by
  unfold fitB
  by_cases h0 : x = 0
  · exact .inl ⟨h0, by simp [h0]⟩
  · by_cases h1 : -n ≤ x
    · by_cases h2 : x ≤ n
      · exact .inr (.inr (.inr ⟨h0, h1, h2, by simp [h0, h1, h2]⟩))
      · exact .inr (.inr (.inl ⟨h0, h1, by omega, by simp [h2]⟩))
    · exact .inr (.inl ⟨h0, by omega, by simp [h1]⟩)
theorem ine {a b : Int} (h : a ≠ b) : (a != b) = true := by simp [h]
theorem inf {a b : Int} (h : a = b) : (a != b) = false := by simp [h]
theorem iet {a b : Int} (h : a = b) : (a == b) = true := by simp [h]
theorem ief {a b : Int} (h : a ≠ b) : (a == b) = false := by simp [h]
theorem fits_any (x n : Int) (v : Bool) (w : World) (hn0 : 0 ≤ n) (hn : n ≤ 9223372036854775807) (hv : Hid (fitB n x = v)) :
    Calls Try.prog 36 #[.int .i64 x, .int .i64 n] w fun e w' => e = .returned (.bool v) ∧ w = w' := by
  rcases fitB_cases n x with ⟨h0, h⟩ | ⟨h0, h1, h⟩ | ⟨h0, h1, h2, h⟩ | ⟨h0, h1, h2, h⟩
  · obtain rfl : v = false := by rw [← hv.out, h]
    have e0 := inf h0
    clear h hv h0
    go_enter Try.func36, Try.ntmps36
    go_wp2_with fail
    go_ret
    exact ⟨rfl, rfl⟩
  · obtain rfl : v = false := by rw [← hv.out, h]
    have e0 := ine h0
    have d1 : decide (-n ≤ x) = false := decide_eq_false (by omega)
    clear h hv h0
    go_enter Try.func36, Try.ntmps36
    go_wp2_with fail
    go_ret
    exact ⟨rfl, rfl⟩
  · obtain rfl : v = false := by rw [← hv.out, h]
    have e0 := ine h0
    have d1 : decide (-n ≤ x) = true := decide_eq_true h1
    have d2 : decide (x ≤ n) = false := decide_eq_false (by omega)
    clear h hv h0
    go_enter Try.func36, Try.ntmps36
    go_wp2_with fail
    go_ret
    exact ⟨rfl, rfl⟩
  · obtain rfl : v = true := by rw [← hv.out, h]
    have e0 := ine h0
    have d1 : decide (-n ≤ x) = true := decide_eq_true h1
    have d2 : decide (x ≤ n) = true := decide_eq_true h2
    clear h hv h0
    go_enter Try.func36, Try.ntmps36
    go_wp2_with fail
    go_ret
    exact ⟨rfl, rfl⟩
theorem okC_stop {n : Int} {c : List Int} {k : Nat} (hk : k < c.length) (h : fitB n (c.getD k 0) = false) : okC n c = false := by
  have e : c.getD k 0 = c[k] := by simp [hk]
  rw [e] at h
  unfold okC
  rw [Bool.eq_false_iff]
  intro ha
  have := List.all_eq_true.1 ha _ (List.getElem_mem hk)
  rw [h] at this; cases this
theorem okC_take {n : Int} {c : List Int} {k : Nat} (hk : k < c.length) (h : fitB n (c.getD k 0) = true) (hp : okC n (c.take k) = true) : okC n (c.take (k + 1)) = true := by
  have e : c.getD k 0 = c[k] := by simp [hk]
  rw [e] at h
  unfold okC at hp ⊢
  rw [List.take_succ_eq_append_getElem hk, List.all_append, hp]
  simp [h]
def chkV (v : Bool) : Int := if v = true then 0 else 8
set_option maxHeartbeats 800000 in
theorem checkClause_neg (a : Option Addr) (cap : Nat) (c : List Int) (n : Int) (w : World) (h : ValRow w (.slice a c.length cap) (intVals c)) (hn : n ≤ 9223372036854775807) (hneg : n < 0) (v : Bool) (hv : Hid (okC 0 c = v)) :
    Calls Try.prog 14 #[.slice a c.length cap, .int .i64 n] w fun e w' => e = .returned (.int .i64 (chkV v)) ∧ w = w' := by
  have hl := h.len
  rw [intVals_length] at hl
  unfold maxLen at hl
  have H := Lib.hid h
  clear h
  have hdn : decide (n < 0) = true := decide_eq_true hneg
  go_enter Try.func14, Try.ntmps14
  go_wp2_with fail
  go_loop [11] (fun i => ∃ k : Nat, i = .int .i64 k ∧ k ≤ c.length ∧ okC 0 (c.take k) = true) (fun i => c.length - (intOf i).toNat)
  case atStart => exact ⟨0, rfl, Nat.zero_le _, rfl⟩
  case round =>
    obtain ⟨k, rfl, hk, hok⟩ := hrel
    have HOK := Lib.hid hok
    clear hok
    have k0 : (0 : Int) ≤ (k : Int) := by omega
    by_cases hlt : k < c.length
    · have k1 : (k : Int) < (c.length : Int) := by omega
      have hdk : decide (k < c.length) = true := decide_eq_true hlt
      obtain ⟨b, off, rfl, _, hc⟩ := int_at H.out k hlt
      have HST := Lib.hid (fun h => @okC_stop 0 c k hlt h)
      have HTK := Lib.hid (fun h => @okC_take 0 c k hlt h HOK.out)
      obtain ⟨x, hx⟩ : ∃ x, c.getD k 0 = x := ⟨_, rfl⟩
      rw [hx] at hc HST HTK
      clear hx
      cases hf : fitB 0 x with
      | false =>
        have HF := Lib.hid hf
        have HV : Hid (v = false) := Lib.hid (by rw [← hv.out]; exact HST.out hf)
        clear hf
        go_wp2_with fail
        refine (fits_any x 0 false _ (by omega) (by omega) HF).mono ?_
        rintro e w1 ⟨rfl, rfl⟩
        go_wp2_with fail
        go_ret
        exact ⟨ret_int (by rw [HV.out]; rfl), rfl⟩
      | true =>
        have HF := Lib.hid hf
        have HNX := Lib.hid (HTK.out hf)
        clear hf
        go_wp2_with fail
        refine (fits_any x 0 true _ (by omega) (by omega) HF).mono ?_
        rintro e w1 ⟨rfl, rfl⟩
        go_wp2_with fail
        go_round
        case rel => exact ⟨k + 1, by go_num, by omega, HNX.out⟩
        case measure => simp [intOf]; omega
    · have hdk : decide (k < c.length) = false := decide_eq_false hlt
      have HV : Hid (v = true) := Lib.hid (by rw [← hv.out, ← HOK.out, List.take_of_length_le (by omega)])
      have HLT := Lib.hid hlt
      clear hlt
      go_wp2_with fail
      go_ret
      exact ⟨ret_int (by rw [HV.out]; rfl), rfl⟩
set_option maxHeartbeats 800000 in
theorem checkClause_pos (a : Option Addr) (cap : Nat) (c : List Int) (n : Int) (w : World) (h : ValRow w (.slice a c.length cap) (intVals c)) (hn : n ≤ 9223372036854775807) (hneg : 0 ≤ n) (v : Bool) (hv : Hid (okC n c = v)) :
    Calls Try.prog 14 #[.slice a c.length cap, .int .i64 n] w fun e w' => e = .returned (.int .i64 (chkV v)) ∧ w = w' := by
  have hl := h.len
  rw [intVals_length] at hl
  unfold maxLen at hl
  have H := Lib.hid h
  clear h
  have hdn : decide (n < 0) = false := decide_eq_false (by omega)
  have hnn : ¬ n < 0 := by omega
  go_enter Try.func14, Try.ntmps14
  go_wp2_with fail
  go_loop [11] (fun i => ∃ k : Nat, i = .int .i64 k ∧ k ≤ c.length ∧ okC n (c.take k) = true) (fun i => c.length - (intOf i).toNat)
  case atStart => exact ⟨0, rfl, Nat.zero_le _, rfl⟩
  case round =>
    obtain ⟨k, rfl, hk, hok⟩ := hrel
    have HOK := Lib.hid hok
    clear hok
    have k0 : (0 : Int) ≤ (k : Int) := by omega
    by_cases hlt : k < c.length
    · have k1 : (k : Int) < (c.length : Int) := by omega
      have hdk : decide (k < c.length) = true := decide_eq_true hlt
      obtain ⟨b, off, rfl, _, hc⟩ := int_at H.out k hlt
      have HST := Lib.hid (fun h => @okC_stop n c k hlt h)
      have HTK := Lib.hid (fun h => @okC_take n c k hlt h HOK.out)
      obtain ⟨x, hx⟩ : ∃ x, c.getD k 0 = x := ⟨_, rfl⟩
      rw [hx] at hc HST HTK
      clear hx
      cases hf : fitB n x with
      | false =>
        have HF := Lib.hid hf
        have HV : Hid (v = false) := Lib.hid (by rw [← hv.out]; exact HST.out hf)
        clear hf
        go_wp2_with fail
        refine (fits_any x n false _ (by omega) (by omega) HF).mono ?_
        rintro e w1 ⟨rfl, rfl⟩
        go_wp2_with fail
        go_ret
        exact ⟨ret_int (by rw [HV.out]; rfl), rfl⟩
      | true =>
        have HF := Lib.hid hf
        have HNX := Lib.hid (HTK.out hf)
        clear hf
        go_wp2_with fail
        refine (fits_any x n true _ (by omega) (by omega) HF).mono ?_
        rintro e w1 ⟨rfl, rfl⟩
        go_wp2_with fail
        go_round
        case rel => exact ⟨k + 1, by go_num, by omega, HNX.out⟩
        case measure => simp [intOf]; omega
    · have hdk : decide (k < c.length) = false := decide_eq_false hlt
      have HV : Hid (v = true) := Lib.hid (by rw [← hv.out, ← HOK.out, List.take_of_length_le (by omega)])
      have HLT := Lib.hid hlt
      clear hlt
      go_wp2_with fail
      go_ret
      exact ⟨ret_int (by rw [HV.out]; rfl), rfl⟩
set_option maxHeartbeats 1600000 in
theorem rcheckClause_neg (a : Option Addr) (cap : Nat) (c : List Int) (n : Int) (w : World) (h : ValRow w (.slice a c.length cap) (intVals c)) (hn : n ≤ 9223372036854775807) (hneg : n < 0) (v : Bool) (hv : Hid (okC 0 c = v)) :
    Calls Try.prog 15 #[.slice a c.length cap, .int .i64 n] w fun e w' => e = .returned (.int .i64 (chkV v)) ∧ w = w' := by
  have hl := h.len
  rw [intVals_length] at hl
  unfold maxLen at hl
  have H := Lib.hid h
  clear h
  have hdn : decide (n < 0) = true := decide_eq_true hneg
  go_enter Try.func15, Try.ntmps15
  go_wp2_with fail
  go_loop [5] (fun i => ∃ k : Nat, i = .int .i64 k ∧ k ≤ c.length ∧ okC 0 (c.take k) = true) (fun i => c.length - (intOf i).toNat)
  case atStart => exact ⟨0, rfl, Nat.zero_le _, rfl⟩
  case round =>
    obtain ⟨k, rfl, hk, hok⟩ := hrel
    have HOK := Lib.hid hok
    clear hok
    have k0 : (0 : Int) ≤ (k : Int) := by omega
    by_cases hlt : k < c.length
    · have k1 : (k : Int) < (c.length : Int) := by omega
      have hdk : decide (k < c.length) = true := decide_eq_true hlt
      obtain ⟨b, off, rfl, _, hc⟩ := int_at H.out k hlt
      have HST := Lib.hid (fun h => @okC_stop 0 c k hlt h)
      have HTK := Lib.hid (fun h => @okC_take 0 c k hlt h HOK.out)
      obtain ⟨x, hx⟩ : ∃ x, c.getD k 0 = x := ⟨_, rfl⟩
      rw [hx] at hc HST HTK
      clear hx
      rcases fitB_cases 0 x with ⟨h0, h⟩ | ⟨h0, h1, h⟩ | ⟨h0, h1, h2, h⟩ | ⟨h0, h1, h2, h⟩
      · have HV : Hid (v = false) := Lib.hid (by rw [← hv.out]; exact HST.out h)
        have e0 := iet h0
        clear h h0
        go_wp2_with fail
        go_ret
        exact ⟨ret_int (by rw [HV.out]; rfl), rfl⟩
      · have HV : Hid (v = false) := Lib.hid (by rw [← hv.out]; exact HST.out h)
        have e0 := ief h0
        have d1 : decide (0 < x) = false := decide_eq_false (by omega)
        have d2 : decide (x < 0) = true := decide_eq_true (by omega)
        clear h h0
        go_wp2_with fail
        go_ret
        exact ⟨ret_int (by rw [HV.out]; rfl), rfl⟩
      · have HV : Hid (v = false) := Lib.hid (by rw [← hv.out]; exact HST.out h)
        have e0 := ief h0
        have d1 : decide (0 < x) = true := decide_eq_true h2
        clear h h0
        go_wp2_with fail
        go_ret
        exact ⟨ret_int (by rw [HV.out]; rfl), rfl⟩
      · have HNX := Lib.hid (HTK.out h)
        have e0 := ief h0
        have d1 : decide (0 < x) = false := decide_eq_false (by omega)
        have d2 : decide (x < 0) = false := decide_eq_false (by omega)
        clear h h0
        go_wp2_with fail
        go_round
        case rel => exact ⟨k + 1, by go_num, by omega, HNX.out⟩
        case measure => simp [intOf]; omega
    · have hdk : decide (k < c.length) = false := decide_eq_false hlt
      have HV : Hid (v = true) := Lib.hid (by rw [← hv.out, ← HOK.out, List.take_of_length_le (by omega)])
      have HLT := Lib.hid hlt
      clear hlt
      go_wp2_with fail
      go_ret
      exact ⟨ret_int (by rw [HV.out]; rfl), rfl⟩
set_option maxHeartbeats 1600000 in
theorem rcheckClause_pos (a : Option Addr) (cap : Nat) (c : List Int) (n : Int) (w : World) (h : ValRow w (.slice a c.length cap) (intVals c)) (hn : n ≤ 9223372036854775807) (hneg : 0 ≤ n) (v : Bool) (hv : Hid (okC n c = v)) :
    Calls Try.prog 15 #[.slice a c.length cap, .int .i64 n] w fun e w' => e = .returned (.int .i64 (chkV v)) ∧ w = w' := by
  have hl := h.len
  rw [intVals_length] at hl
  unfold maxLen at hl
  have H := Lib.hid h
  clear h
  have hdn : decide (n < 0) = false := decide_eq_false (by omega)
  have hnn : ¬ n < 0 := by omega
  go_enter Try.func15, Try.ntmps15
  go_wp2_with fail
  go_loop [5] (fun i => ∃ k : Nat, i = .int .i64 k ∧ k ≤ c.length ∧ okC n (c.take k) = true) (fun i => c.length - (intOf i).toNat)
  case atStart => exact ⟨0, rfl, Nat.zero_le _, rfl⟩
  case round =>
    obtain ⟨k, rfl, hk, hok⟩ := hrel
    have HOK := Lib.hid hok
    clear hok
    have k0 : (0 : Int) ≤ (k : Int) := by omega
    by_cases hlt : k < c.length
    · have k1 : (k : Int) < (c.length : Int) := by omega
      have hdk : decide (k < c.length) = true := decide_eq_true hlt
      obtain ⟨b, off, rfl, _, hc⟩ := int_at H.out k hlt
      have HST := Lib.hid (fun h => @okC_stop n c k hlt h)
      have HTK := Lib.hid (fun h => @okC_take n c k hlt h HOK.out)
      obtain ⟨x, hx⟩ : ∃ x, c.getD k 0 = x := ⟨_, rfl⟩
      rw [hx] at hc HST HTK
      clear hx
      rcases fitB_cases n x with ⟨h0, h⟩ | ⟨h0, h1, h⟩ | ⟨h0, h1, h2, h⟩ | ⟨h0, h1, h2, h⟩
      · have HV : Hid (v = false) := Lib.hid (by rw [← hv.out]; exact HST.out h)
        have e0 := iet h0
        clear h h0
        go_wp2_with fail
        go_ret
        exact ⟨ret_int (by rw [HV.out]; rfl), rfl⟩
      · have HV : Hid (v = false) := Lib.hid (by rw [← hv.out]; exact HST.out h)
        have e0 := ief h0
        have d1 : decide (n < x) = false := decide_eq_false (by omega)
        have d2 : decide (x < -n) = true := decide_eq_true (by omega)
        clear h h0
        go_wp2_with fail
        go_ret
        exact ⟨ret_int (by rw [HV.out]; rfl), rfl⟩
      · have HV : Hid (v = false) := Lib.hid (by rw [← hv.out]; exact HST.out h)
        have e0 := ief h0
        have d1 : decide (n < x) = true := decide_eq_true h2
        clear h h0
        go_wp2_with fail
        go_ret
        exact ⟨ret_int (by rw [HV.out]; rfl), rfl⟩
      · have HNX := Lib.hid (HTK.out h)
        have e0 := ief h0
        have d1 : decide (n < x) = false := decide_eq_false (by omega)
        have d2 : decide (x < -n) = false := decide_eq_false (by omega)
        clear h h0
        go_wp2_with fail
        go_round
        case rel => exact ⟨k + 1, by go_num, by omega, HNX.out⟩
        case measure => simp [intOf]; omega
    · have hdk : decide (k < c.length) = false := decide_eq_false hlt
      have HV : Hid (v = true) := Lib.hid (by rw [← hv.out, ← HOK.out, List.take_of_length_le (by omega)])
      have HLT := Lib.hid hlt
      clear hlt
      go_wp2_with fail
      go_ret
      exact ⟨ret_int (by rw [HV.out]; rfl), rfl⟩
theorem checkClause_any (a : Option Addr) (cap : Nat) (c : List Int) (n : Int) (w : World) (h : ValRow w (.slice a c.length cap) (intVals c)) (hn : n ≤ 9223372036854775807) (v : Bool) (hv : Hid (okC (max n 0) c = v)) :
    Calls Try.prog 14 #[.slice a c.length cap, .int .i64 n] w fun e w' => e = .returned (.int .i64 (chkV v)) ∧ w = w' := by
  by_cases hneg : n < 0
  · exact checkClause_neg a cap c n w h hn hneg v (Lib.hid (by have := hv.out; rwa [show max n 0 = 0 from by omega] at this))
  · exact checkClause_pos a cap c n w h hn (by omega) v (Lib.hid (by have := hv.out; rwa [show max n 0 = n from by omega] at this))
theorem rcheckClause_any (a : Option Addr) (cap : Nat) (c : List Int) (n : Int) (w : World) (h : ValRow w (.slice a c.length cap) (intVals c)) (hn : n ≤ 9223372036854775807) (v : Bool) (hv : Hid (okC (max n 0) c = v)) :
    Calls Try.prog 15 #[.slice a c.length cap, .int .i64 n] w fun e w' => e = .returned (.int .i64 (chkV v)) ∧ w = w' := by
  by_cases hneg : n < 0
  · exact rcheckClause_neg a cap c n w h hn hneg v (Lib.hid (by have := hv.out; rwa [show max n 0 = 0 from by omega] at this))
  · exact rcheckClause_pos a cap c n w h hn (by omega) v (Lib.hid (by have := hv.out; rwa [show max n 0 = n from by omega] at this))
end Go.Proofs.Yteimfcokobdldaa
