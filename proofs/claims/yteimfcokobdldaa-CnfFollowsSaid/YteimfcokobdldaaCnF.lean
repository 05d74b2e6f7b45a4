/- The reference's Taut and Holds. -/
import Derived.Test.YteimfcokobdldaaCnE
namespace Go.Proofs.Yteimfcokobdldaa
open Go.RowKit
set_option linter.unusedVariables false
set_option maxHeartbeats 800000 in
theorem rtaut_any (a : Option Addr) (cap : Nat) (c : List Int) (w : World) (h : ValRow w (.slice a c.length cap) (intVals c)) (hlit : Lits c) (v : Bool) (hv : Hid (tautB c = v)) :
    Calls Try.prog 20 #[.slice a c.length cap] w fun e w' => e = .returned (.bool v) ∧ w = w' := by
  have hl := h.len
  rw [intVals_length] at hl
  unfold maxLen at hl
  have H := Lib.hid h
  have HLIT := Lib.hid hlit
  clear h hlit
  go_enter Try.func20, Try.ntmps20
  go_wp2_with fail
  go_loop [3] (fun i => ∃ k : Nat, i = .int .i64 k ∧ k ≤ c.length ∧ ((c.take k).any fun x => hasB c (-x)) = false) (fun i => c.length - (intOf i).toNat)
  case atStart => exact ⟨0, rfl, Nat.zero_le _, rfl⟩
  case round =>
    obtain ⟨k, rfl, hk, hok⟩ := hrel
    have HOK := Lib.hid hok
    clear hok
    have k0 : (0 : Int) ≤ (k : Int) := by omega
    by_cases hlt : k < c.length
    · have k1 : (k : Int) < (c.length : Int) := by omega
      have hdk : decide (k < c.length) = true := decide_eq_true hlt
      obtain ⟨b, off, rfl, _, hc⟩ := int_at H.out k hlt
      have e : c.getD k 0 = c[k] := by simp [hlt]
      have HTK := Lib.hid (List.take_succ_eq_append_getElem hlt)
      have HMEM := List.getElem_mem hlt
      rw [← e] at HTK HMEM
      have HM := Lib.hid HMEM
      clear e HMEM
      obtain ⟨x, hx⟩ : ∃ x, c.getD k 0 = x := ⟨_, rfl⟩
      rw [hx] at hc HTK HM
      clear hx
      have hx1 := (HLIT.out x HM.out).2.1
      have hx2 := (HLIT.out x HM.out).2.2
      obtain ⟨u, hu⟩ : ∃ u, hasB c (-x) = u := ⟨_, rfl⟩
      have HU := Lib.hid hu
      clear hu
      go_wp2_with fail
      refine (has_any _ cap c (-x) _ H.out u HU).mono ?_
      rintro e w1 ⟨rfl, rfl⟩
      cases u with
      | true =>
        have HANY : Hid (v = true) := Lib.hid (by rw [← hv.out]; exact List.any_eq_true.2 ⟨x, HM.out, HU.out⟩)
        go_wp2_with fail
        go_ret
        exact ⟨ret_bool HANY.out.symm, rfl⟩
      | false =>
        have HNX : Hid (((c.take (k + 1)).any fun x => hasB c (-x)) = false) := Lib.hid (by rw [HTK.out, List.any_append, HOK.out]; simp [HU.out])
        go_wp2_with fail
        go_round
        case rel => exact ⟨k + 1, by go_num, by omega, HNX.out⟩
        case measure => simp [intOf]; omega
    · have hdk : decide (k < c.length) = false := decide_eq_false hlt
      have HANY : Hid (v = false) := Lib.hid (by rw [← hv.out]; have := HOK.out; rwa [List.take_of_length_le (by omega)] at this)
      have HLT := Lib.hid hlt
      clear hlt
      go_wp2_with fail
      go_ret
      exact ⟨ret_bool HANY.out.symm, rfl⟩
set_option maxHeartbeats 1600000 in
theorem rholds_any (va : Option Addr) (vc : Nat) (LL : List (List Int)) (a : Option Addr) (cap : Nat) (M : List Bool) (w : World) (hL : RowOf 1 IntsC w (.slice va LL.length vc) LL) (h : ValRow w (.slice a M.length cap) (boolVals M)) (hl : ∀ c ∈ LL, Lits c) (v : Bool) (hv : Hid (holdsB LL M = v)) :
    Calls Try.prog 27 #[.slice va LL.length vc, .slice a M.length cap] w fun e w' => e = .returned (.bool v) ∧ w = w' := by
  have hmx := hL.len
  unfold maxLen at hmx
  have H := Lib.hid hL
  have HM := Lib.hid h
  have HLIT := Lib.hid hl
  clear hL h hl
  go_enter Try.func27, Try.ntmps27
  go_wp2_with fail
  go_loop [5] (fun i => ∃ k : Nat, i = .int .i64 k ∧ k ≤ LL.length ∧ holdsB (LL.take k) M = true) (fun i => LL.length - (intOf i).toNat)
  case atStart => exact ⟨0, rfl, Nat.zero_le _, rfl⟩
  case round =>
    obtain ⟨k, rfl, hk, hok⟩ := hrel
    have HOK := Lib.hid hok
    clear hok
    have k0 : (0 : Int) ≤ (k : Int) := by omega
    by_cases hlt : k < LL.length
    · have k1 : (k : Int) < (LL.length : Int) := by omega
      have hdk : decide (k < LL.length) = true := decide_eq_true hlt
      obtain ⟨b, off, ra, rc, rfl, _, hc, hrw, _⟩ := ints_row H.out k hlt
      have e : LL.getD k [] = LL[k] := by simp [hlt]
      have HTK := Lib.hid (List.take_succ_eq_append_getElem hlt)
      have HMEM := List.getElem_mem hlt
      rw [← e] at HTK HMEM
      have HME := Lib.hid HMEM
      clear e HMEM
      obtain ⟨c, hcc⟩ : ∃ c, LL.getD k [] = c := ⟨_, rfl⟩
      rw [hcc] at hc hrw HTK HME
      have hcm := hrw.len
      rw [intVals_length] at hcm
      unfold maxLen at hcm
      have HRW := Lib.hid hrw
      have HLC := Lib.hid (HLIT.out c HME.out)
      clear hrw hcc
      go_wp2_with fail
      go_loop [6, 7] (fun s i => ∃ (q : Nat) (m : Bool), i = .int .i64 q ∧ q ≤ c.length ∧ s = .bool m ∧ m = (c.take q).any (trueB M)) (fun _ i => c.length - (intOf i).toNat)
      case atStart => exact ⟨0, false, rfl, Nat.zero_le _, rfl, rfl⟩
      case round =>
        obtain ⟨q, m, rfl, hq, rfl, hm⟩ := hrel
        have HMM := Lib.hid hm
        clear hm
        have q0 : (0 : Int) ≤ (q : Int) := by omega
        by_cases hqt : q < c.length
        · have q1 : (q : Int) < (c.length : Int) := by omega
          have hdq : decide (q < c.length) = true := decide_eq_true hqt
          obtain ⟨b2, off2, rfl, _, hx⟩ := int_at HRW.out q hqt
          have e : c.getD q 0 = c[q] := by simp [hqt]
          have HTQ := Lib.hid (List.take_succ_eq_append_getElem hqt)
          have HMEM := List.getElem_mem hqt
          rw [← e] at HTQ HMEM
          have HXM := Lib.hid HMEM
          clear e HMEM
          obtain ⟨x, hxx⟩ : ∃ x, c.getD q 0 = x := ⟨_, rfl⟩
          rw [hxx] at hx HTQ HXM
          clear hxx
          cases m with
          | true =>
            have HNX : Hid (true = (c.take (q + 1)).any (trueB M)) := Lib.hid (by rw [HTQ.out, List.any_append, ← HMM.out]; rfl)
            go_wp2_with fail
            go_round
            case rel => exact ⟨q + 1, true, by go_num, by omega, rfl, HNX.out⟩
            case measure => simp [intOf]; omega
          | false =>
            obtain ⟨u, hu⟩ : ∃ u, trueB M x = u := ⟨_, rfl⟩
            have HU := Lib.hid hu
            have HNX : Hid (u = (c.take (q + 1)).any (trueB M)) := Lib.hid (by rw [HTQ.out, List.any_append, ← HMM.out]; simp [hu])
            have HT := Lib.hid (rtrue_any x a cap M w HM.out (HLC.out x HXM.out).1 (HLC.out x HXM.out).2.1 (HLC.out x HXM.out).2.2 u HU)
            clear hu
            go_wp2_with fail
            refine HT.out.mono ?_
            rintro e w1 ⟨rfl, rfl⟩
            go_wp2_with fail
            go_round
            case rel => exact ⟨q + 1, u, by go_num, by omega, rfl, HNX.out⟩
            case measure => simp [intOf]; omega
        · have hdq : decide (q < c.length) = false := decide_eq_false hqt
          have HMV : Hid (m = c.any (trueB M)) := Lib.hid (by have := HMM.out; rwa [List.take_of_length_le (by omega)] at this)
          have HQT := Lib.hid hqt
          clear hqt
          cases m with
          | true =>
            have HNX : Hid (holdsB (LL.take (k + 1)) M = true) := Lib.hid (by
              have h1 := HOK.out
              unfold holdsB at h1 ⊢
              rw [HTK.out, List.all_append, h1]
              simp [← HMV.out])
            go_wp2_with fail
            go_round
            case rel => exact ⟨k + 1, by go_num, by omega, HNX.out⟩
            case measure => simp [intOf]; omega
          | false =>
            have HV : Hid (v = false) := Lib.hid (by
              rw [← hv.out, Bool.eq_false_iff]
              intro ha
              have := List.all_eq_true.1 ha c HME.out
              rw [← HMV.out] at this; cases this)
            go_wp2_with fail
            go_ret
            exact ⟨ret_bool HV.out.symm, rfl⟩
    · have hdk : decide (k < LL.length) = false := decide_eq_false hlt
      have HV : Hid (v = true) := Lib.hid (by rw [← hv.out]; have := HOK.out; rwa [List.take_of_length_le (by omega)] at this)
      have HLT := Lib.hid hlt
      clear hlt
      go_wp2_with fail
      go_ret
      exact ⟨ret_bool HV.out.symm, rfl⟩
end Go.Proofs.Yteimfcokobdldaa
