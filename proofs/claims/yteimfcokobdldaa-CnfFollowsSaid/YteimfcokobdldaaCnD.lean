/- The reference's True; slices.Index, Contains, IndexFunc, ContainsFunc; the reference's Has. -/
import Derived.Test.YteimfcokobdldaaCnC
namespace Go.Proofs.Yteimfcokobdldaa
open Go.RowKit
set_option linter.unusedVariables false
/-- what a search comes to -/
def IdxPost (b : Bool) (e : Ending) : Prop := (b = false ∧ e = .returned (.int .i64 (-1))) ∨ (b = true ∧ ∃ k : Nat, e = .returned (.int .i64 k))
set_option maxHeartbeats 1600000 in
theorem rtrue_any : trueGoal 29 := by
  intro x a cap M w h h0 h1 h2 v hv
  have hl := h.len
  rw [boolVals_length] at hl
  unfold maxLen at hl
  obtain ⟨j, hj⟩ : ∃ j, x.natAbs = j + 1 := ⟨x.natAbs - 1, by omega⟩
  have HVI : Hid (varI x = (j : Int) + 1) := Lib.hid (by unfold varI; omega)
  have j0 : (0 : Int) ≤ (j : Int) := by omega
  have j9 : (j : Int) ≤ 1000000 := by omega
  have d0 : decide (1 ≤ (j : Int) + 1) = true := decide_eq_true (by omega)
  have hjw : IntKind.i64.wrap ((j : Int) + 1 - 1) = (j : Int) := by rw [IntWalk.i64_in _ (by omega)]; omega
  by_cases hin : j < M.length
  · obtain ⟨b, off, rfl, _, hc⟩ := bool_at h j hin
    have j1 : (j : Int) < (M.length : Int) := by omega
    have d1 : decide ((j : Int) + 1 ≤ (M.length : Int)) = true := decide_eq_true (by omega)
    have d1' : decide (j + 1 ≤ M.length) = true := decide_eq_true (by omega)
    have HV : Hid ((M.getD j false == decide (0 < x)) = v) := Lib.hid (by rw [← hv.out, trueB_in hj hin])
    obtain ⟨m, hm⟩ : ∃ m, M.getD j false = m := ⟨_, rfl⟩
    rw [hm] at hc HV
    clear hm h hv hj
    cases hp : decide (0 < x) <;> cases m
    all_goals
      have HVV := Lib.hid HV.out
      rw [hp] at HVV
      clear HV
      go_enter Try.func29, Try.ntmps29
      go_wp2_with fail
      refine (rvar_any x _ (by omega) (by omega)).mono ?_
      rintro e w1 ⟨rfl, rfl⟩
      rw [HVI.out]
      go_wp2_with fail
      refine (rvar_any x _ (by omega) (by omega)).mono ?_
      rintro e w1 ⟨rfl, rfl⟩
      rw [HVI.out]
      go_wp2_with fail
      go_ret
      exact ⟨ret_bool (by rw [← HVV.out]; rfl), rfl⟩
  · have d1 : decide ((j : Int) + 1 ≤ (M.length : Int)) = false := decide_eq_false (by omega)
    have d1' : decide (j + 1 ≤ M.length) = false := decide_eq_false (by omega)
    have HV : Hid ((false == decide (0 < x)) = v) := Lib.hid (by rw [← hv.out, trueB_out (by omega)])
    clear hv hj h
    cases hp : decide (0 < x)
    all_goals
      have HVV := Lib.hid HV.out
      rw [hp] at HVV
      clear HV
      go_enter Try.func29, Try.ntmps29
      go_wp2_with fail
      refine (rvar_any x _ (by omega) (by omega)).mono ?_
      rintro e w1 ⟨rfl, rfl⟩
      rw [HVI.out]
      go_wp2_with fail
      go_ret
      exact ⟨ret_bool (by rw [← HVV.out]; rfl), rfl⟩
/-- is a number in a list? -/
def hasB (c : List Int) (x : Int) : Bool := c.any fun y => y == x
set_option maxHeartbeats 800000 in
theorem index_any (a : Option Addr) (cap : Nat) (c : List Int) (x : Int) (w : World) (h : ValRow w (.slice a c.length cap) (intVals c)) :
    Calls Try.prog 60 #[.slice a c.length cap, .int .i64 x] w fun e w' => IdxPost (hasB c x) e ∧ w = w' := by
  have hl := h.len
  rw [intVals_length] at hl
  unfold maxLen at hl
  have H := Lib.hid h
  clear h
  go_enter Try.func60, Try.ntmps60
  go_wp2_with fail
  go_loop [8] (fun i => ∃ k : Nat, i = .int .i64 k ∧ k ≤ c.length ∧ hasB (c.take k) x = false) (fun i => c.length - (intOf i).toNat)
  case atStart => exact ⟨0, rfl, Nat.zero_le _, rfl⟩
  case round =>
    obtain ⟨k, rfl, hk, hok⟩ := hrel
    have HOK := Lib.hid hok
    clear hok
    have k0 : (0 : Int) ≤ (k : Int) := by omega
    by_cases hlt : k < c.length
    · have k1 : (k : Int) < (c.length : Int) := by omega
      have hdk : decide (k < c.length) = true := decide_eq_true hlt
      obtain ⟨b, off, rfl, _, hc⟩ := int_at H.out k hlt
      have e : c.getD k 0 = c[k] := by simp [hlt]
      have HTK := Lib.hid (List.take_succ_eq_append_getElem hlt)
      have HMEM := List.getElem_mem hlt
      rw [← e] at HTK HMEM
      have HM := Lib.hid HMEM
      clear e HMEM
      obtain ⟨y, hy⟩ : ∃ y, c.getD k 0 = y := ⟨_, rfl⟩
      rw [hy] at hc HTK HM
      clear hy
      by_cases hxy : x = y
      · have HANY : Hid (hasB c x = true) := Lib.hid (List.any_eq_true.2 ⟨y, HM.out, by simp [hxy]⟩)
        have d1 := iet hxy
        clear hxy
        go_wp2_with fail
        go_ret
        exact ⟨.inr ⟨HANY.out, k, rfl⟩, rfl⟩
      · have HNX : Hid (hasB (c.take (k + 1)) x = false) := Lib.hid (by
          have h1 := HOK.out
          unfold hasB at h1 ⊢
          rw [HTK.out, List.any_append, h1]
          simp; omega)
        have d1 := ief hxy
        clear hxy
        go_wp2_with fail
        go_round
        case rel => exact ⟨k + 1, by go_num, by omega, HNX.out⟩
        case measure => simp [intOf]; omega
    · have hdk : decide (k < c.length) = false := decide_eq_false hlt
      have HANY : Hid (hasB c x = false) := Lib.hid (by have := HOK.out; rwa [List.take_of_length_le (by omega)] at this)
      have HLT := Lib.hid hlt
      clear hlt
      go_wp2_with fail
      go_ret
      exact ⟨.inl ⟨HANY.out, rfl⟩, rfl⟩
theorem contains_any (a : Option Addr) (cap : Nat) (c : List Int) (x : Int) (w : World) (h : ValRow w (.slice a c.length cap) (intVals c)) (v : Bool) (hv : Hid (hasB c x = v)) :
    Calls Try.prog 45 #[.slice a c.length cap, .int .i64 x] w fun e w' => e = .returned (.bool v) ∧ w = w' := by
  have HC := Lib.hid (index_any a cap c x w h)
  clear h
  go_enter Try.func45, Try.ntmps45
  go_wp2_with fail
  refine HC.out.mono ?_
  rintro e w1 ⟨⟨hn, rfl⟩ | ⟨hn, k, rfl⟩, rfl⟩
  · have HV : Hid (false = v) := Lib.hid (by rw [← hv.out, hn])
    clear hn
    go_wp2_with fail
    go_ret
    exact ⟨ret_bool HV.out, rfl⟩
  · have HV : Hid (true = v) := Lib.hid (by rw [← hv.out, hn])
    have k0 : decide ((0 : Int) ≤ (k : Int)) = true := decide_eq_true (by omega)
    clear hn
    go_wp2_with fail
    go_ret
    exact ⟨ret_bool (by simpa using HV.out), rfl⟩
set_option maxHeartbeats 800000 in
theorem has_any (a : Option Addr) (cap : Nat) (c : List Int) (x : Int) (w : World) (h : ValRow w (.slice a c.length cap) (intVals c)) (v : Bool) (hv : Hid (hasB c x = v)) :
    Calls Try.prog 32 #[.slice a c.length cap, .int .i64 x] w fun e w' => e = .returned (.bool v) ∧ w = w' := by
  have hl := h.len
  rw [intVals_length] at hl
  unfold maxLen at hl
  have H := Lib.hid h
  clear h
  go_enter Try.func32, Try.ntmps32
  go_wp2_with fail
  go_loop [5] (fun i => ∃ k : Nat, i = .int .i64 k ∧ k ≤ c.length ∧ hasB (c.take k) x = false) (fun i => c.length - (intOf i).toNat)
  case atStart => exact ⟨0, rfl, Nat.zero_le _, rfl⟩
  case round =>
    obtain ⟨k, rfl, hk, hok⟩ := hrel
    have HOK := Lib.hid hok
    clear hok
    have k0 : (0 : Int) ≤ (k : Int) := by omega
    by_cases hlt : k < c.length
    · have k1 : (k : Int) < (c.length : Int) := by omega
      have hdk : decide (k < c.length) = true := decide_eq_true hlt
      obtain ⟨b, off, rfl, _, hc⟩ := int_at H.out k hlt
      have e : c.getD k 0 = c[k] := by simp [hlt]
      have HTK := Lib.hid (List.take_succ_eq_append_getElem hlt)
      have HMEM := List.getElem_mem hlt
      rw [← e] at HTK HMEM
      have HM := Lib.hid HMEM
      clear e HMEM
      obtain ⟨y, hy⟩ : ∃ y, c.getD k 0 = y := ⟨_, rfl⟩
      rw [hy] at hc HTK HM
      clear hy
      by_cases hxy : y = x
      · have HANY : Hid (hasB c x = true) := Lib.hid (List.any_eq_true.2 ⟨y, HM.out, by simp [hxy]⟩)
        have d1 := iet hxy
        clear hxy
        go_wp2_with fail
        go_ret
        exact ⟨ret_bool (by rw [← hv.out, HANY.out]), rfl⟩
      · have HNX : Hid (hasB (c.take (k + 1)) x = false) := Lib.hid (by
          have h1 := HOK.out
          unfold hasB at h1 ⊢
          rw [HTK.out, List.any_append, h1]
          simp; omega)
        have d1 := ief hxy
        clear hxy
        go_wp2_with fail
        go_round
        case rel => exact ⟨k + 1, by go_num, by omega, HNX.out⟩
        case measure => simp [intOf]; omega
    · have hdk : decide (k < c.length) = false := decide_eq_false hlt
      have HANY : Hid (hasB c x = false) := Lib.hid (by have := HOK.out; rwa [List.take_of_length_le (by omega)] at this)
      have HLT := Lib.hid hlt
      clear hlt
      go_wp2_with fail
      go_ret
      exact ⟨ret_bool (by rw [← hv.out, HANY.out]), rfl⟩
set_option maxHeartbeats 800000 in
theorem idxF_any (p : Int → Bool) (N : FuncId) (caps : Array Value) (a : Option Addr) (cap : Nat) (c : List Int) (w : World) (h : ValRow w (.slice a c.length cap) (intVals c))
    (hent : ∀ (args : Array Value) (w : World), (callFunc N args).run Try.prog w = .ok (.enter N args) w) (hf : ∀ x ∈ c, Calls Try.prog N (#[.int .i64 x] ++ caps) w fun e w' => e = .returned (.bool (p x)) ∧ w = w') :
    Calls Try.prog 59 #[.slice a c.length cap, .func (.func N) #[] caps] w fun e w' => IdxPost (c.any p) e ∧ w = w' := by
  have hl := h.len
  rw [intVals_length] at hl
  unfold maxLen at hl
  have H := Lib.hid h
  have HFN := Lib.hid hf
  clear h hf
  go_enter Try.func59, Try.ntmps59
  go_wp2_with fail
  go_loop [8] (fun i => ∃ k : Nat, i = .int .i64 k ∧ k ≤ c.length ∧ (c.take k).any p = false) (fun i => c.length - (intOf i).toNat)
  case atStart => exact ⟨0, rfl, Nat.zero_le _, rfl⟩
  case round =>
    obtain ⟨k, rfl, hk, hok⟩ := hrel
    have HOK := Lib.hid hok
    clear hok
    have k0 : (0 : Int) ≤ (k : Int) := by omega
    by_cases hlt : k < c.length
    · have k1 : (k : Int) < (c.length : Int) := by omega
      have hdk : decide (k < c.length) = true := decide_eq_true hlt
      obtain ⟨b, off, rfl, _, hc⟩ := int_at H.out k hlt
      have e : c.getD k 0 = c[k] := by simp [hlt]
      have HTK := Lib.hid (List.take_succ_eq_append_getElem hlt)
      have HMEM := List.getElem_mem hlt
      have HF := Lib.hid (HFN.out c[k] HMEM)
      rw [← e] at HTK HMEM HF
      have HM := Lib.hid HMEM
      clear e HMEM
      obtain ⟨x, hx⟩ : ∃ x, c.getD k 0 = x := ⟨_, rfl⟩
      rw [hx] at hc HTK HF HM
      clear hx
      obtain ⟨v, hv⟩ : ∃ v, p x = v := ⟨_, rfl⟩
      rw [hv] at HF
      have HV := Lib.hid hv
      clear hv
      go_wp2_with fail
      refine (HF.out).mono ?_
      rintro e w1 ⟨rfl, rfl⟩
      cases v with
      | true =>
        have HANY : Hid (c.any p = true) := Lib.hid (List.any_eq_true.2 ⟨x, HM.out, HV.out⟩)
        go_wp2_with fail
        go_ret
        exact ⟨.inr ⟨HANY.out, k, rfl⟩, rfl⟩
      | false =>
        have HNX : Hid ((c.take (k + 1)).any p = false) := Lib.hid (by rw [HTK.out, List.any_append, HOK.out]; simp [HV.out])
        go_wp2_with fail
        go_round
        case rel => exact ⟨k + 1, by go_num, by omega, HNX.out⟩
        case measure => simp [intOf]; omega
    · have hdk : decide (k < c.length) = false := decide_eq_false hlt
      have HANY : Hid (c.any p = false) := Lib.hid (by have := HOK.out; rwa [List.take_of_length_le (by omega)] at this)
      have HLT := Lib.hid hlt
      clear hlt
      go_wp2_with fail
      go_ret
      exact ⟨.inl ⟨HANY.out, rfl⟩, rfl⟩
theorem contF_any (p : Int → Bool) (N : FuncId) (caps : Array Value) (a : Option Addr) (cap : Nat) (c : List Int) (w : World) (h : ValRow w (.slice a c.length cap) (intVals c))
    (hent : ∀ (args : Array Value) (w : World), (callFunc N args).run Try.prog w = .ok (.enter N args) w) (hf : ∀ x ∈ c, Calls Try.prog N (#[.int .i64 x] ++ caps) w fun e w' => e = .returned (.bool (p x)) ∧ w = w') (v : Bool) (hv : Hid (c.any p = v)) :
    Calls Try.prog 43 #[.slice a c.length cap, .func (.func N) #[] caps] w fun e w' => e = .returned (.bool v) ∧ w = w' := by
  have HC := Lib.hid (idxF_any p N caps a cap c w h hent hf)
  clear h hf hent
  go_enter Try.func43, Try.ntmps43
  go_wp2_with fail
  refine HC.out.mono ?_
  rintro e w1 ⟨⟨hn, rfl⟩ | ⟨hn, k, rfl⟩, rfl⟩
  · have HV : Hid (false = v) := Lib.hid (by rw [← hv.out, hn])
    clear hn
    go_wp2_with fail
    go_ret
    exact ⟨ret_bool HV.out, rfl⟩
  · have HV : Hid (true = v) := Lib.hid (by rw [← hv.out, hn])
    have k0 : decide ((0 : Int) ≤ (k : Int)) = true := decide_eq_true (by omega)
    clear hn
    go_wp2_with fail
    go_ret
    exact ⟨ret_bool (by simpa using HV.out), rfl⟩
set_option maxHeartbeats 800000 in
theorem idxG_any (p : List Int → Bool) (N : FuncId) (caps : Array Value) (a : Option Addr) (cap : Nat) (c : List (List Int)) (w : World) (h : RowOf 1 IntsC w (.slice a c.length cap) c)
    (hent : ∀ (args : Array Value) (w : World), (callFunc N args).run Try.prog w = .ok (.enter N args) w) (hf : ∀ x ∈ c, ∀ va vc, ValRow w (.slice va x.length vc) (intVals x) → Calls Try.prog N (#[.slice va x.length vc] ++ caps) w fun e w' => e = .returned (.bool (p x)) ∧ w = w') :
    Calls Try.prog 64 #[.slice a c.length cap, .func (.func N) #[] caps] w fun e w' => IdxPost (c.any p) e ∧ w = w' := by
  have hl := h.len
  unfold maxLen at hl
  have H := Lib.hid h
  have HFN := Lib.hid hf
  clear h hf
  go_enter Try.func64, Try.ntmps64
  go_wp2_with fail
  go_loop [8] (fun i => ∃ k : Nat, i = .int .i64 k ∧ k ≤ c.length ∧ (c.take k).any p = false) (fun i => c.length - (intOf i).toNat)
  case atStart => exact ⟨0, rfl, Nat.zero_le _, rfl⟩
  case round =>
    obtain ⟨k, rfl, hk, hok⟩ := hrel
    have HOK := Lib.hid hok
    clear hok
    have k0 : (0 : Int) ≤ (k : Int) := by omega
    by_cases hlt : k < c.length
    · have k1 : (k : Int) < (c.length : Int) := by omega
      have hdk : decide (k < c.length) = true := decide_eq_true hlt
      obtain ⟨b, off, va, vc, rfl, _, hc, hrw, _⟩ := ints_row H.out k hlt
      have e : c.getD k [] = c[k] := by simp [hlt]
      have HTK := Lib.hid (List.take_succ_eq_append_getElem hlt)
      have HMEM := List.getElem_mem hlt
      have HF := Lib.hid (HFN.out c[k] HMEM)
      rw [← e] at HTK HMEM HF
      have HM := Lib.hid HMEM
      clear e HMEM
      obtain ⟨x, hx⟩ : ∃ x, c.getD k [] = x := ⟨_, rfl⟩
      rw [hx] at hc HTK HF HM
      rw [hx] at hrw
      clear hx
      have HRW := Lib.hid hrw
      clear hrw
      obtain ⟨v, hv⟩ : ∃ v, p x = v := ⟨_, rfl⟩
      rw [hv] at HF
      have HV := Lib.hid hv
      clear hv
      go_wp2_with fail
      refine (HF.out va vc HRW.out).mono ?_
      rintro e w1 ⟨rfl, rfl⟩
      cases v with
      | true =>
        have HANY : Hid (c.any p = true) := Lib.hid (List.any_eq_true.2 ⟨x, HM.out, HV.out⟩)
        go_wp2_with fail
        go_ret
        exact ⟨.inr ⟨HANY.out, k, rfl⟩, rfl⟩
      | false =>
        have HNX : Hid ((c.take (k + 1)).any p = false) := Lib.hid (by rw [HTK.out, List.any_append, HOK.out]; simp [HV.out])
        go_wp2_with fail
        go_round
        case rel => exact ⟨k + 1, by go_num, by omega, HNX.out⟩
        case measure => simp [intOf]; omega
    · have hdk : decide (k < c.length) = false := decide_eq_false hlt
      have HANY : Hid (c.any p = false) := Lib.hid (by have := HOK.out; rwa [List.take_of_length_le (by omega)] at this)
      have HLT := Lib.hid hlt
      clear hlt
      go_wp2_with fail
      go_ret
      exact ⟨.inl ⟨HANY.out, rfl⟩, rfl⟩
theorem contG_any (p : List Int → Bool) (N : FuncId) (caps : Array Value) (a : Option Addr) (cap : Nat) (c : List (List Int)) (w : World) (h : RowOf 1 IntsC w (.slice a c.length cap) c)
    (hent : ∀ (args : Array Value) (w : World), (callFunc N args).run Try.prog w = .ok (.enter N args) w) (hf : ∀ x ∈ c, ∀ va vc, ValRow w (.slice va x.length vc) (intVals x) → Calls Try.prog N (#[.slice va x.length vc] ++ caps) w fun e w' => e = .returned (.bool (p x)) ∧ w = w') (v : Bool) (hv : Hid (c.any p = v)) :
    Calls Try.prog 49 #[.slice a c.length cap, .func (.func N) #[] caps] w fun e w' => e = .returned (.bool v) ∧ w = w' := by
  have HC := Lib.hid (idxG_any p N caps a cap c w h hent hf)
  clear h hf hent
  go_enter Try.func49, Try.ntmps49
  go_wp2_with fail
  refine HC.out.mono ?_
  rintro e w1 ⟨⟨hn, rfl⟩ | ⟨hn, k, rfl⟩, rfl⟩
  · have HV : Hid (false = v) := Lib.hid (by rw [← hv.out, hn])
    clear hn
    go_wp2_with fail
    go_ret
    exact ⟨ret_bool HV.out, rfl⟩
  · have HV : Hid (true = v) := Lib.hid (by rw [← hv.out, hn])
    have k0 : decide ((0 : Int) ≤ (k : Int)) = true := decide_eq_true (by omega)
    clear hn
    go_wp2_with fail
    go_ret
    exact ⟨ret_bool (by simpa using HV.out), rfl⟩
end Go.Proofs.Yteimfcokobdldaa
