/- unit: what a clause makes true. -/
import Derived.Test.YteimfcokobdldaaCnG
namespace Go.Proofs.Yteimfcokobdldaa
open Go.RowKit
set_option linter.unusedVariables false
theorem tuple_ib {a b : Int} {x y : Bool} (h : (a, x) = (b, y)) : Ending.returned (.tuple #[.int .i64 a, .bool x]) = .returned (.tuple #[.int .i64 b, .bool y]) := by
  injection h with h1 h2
  rw [h1, h2]
set_option maxHeartbeats 1600000 in
theorem unit_any (b n : Nat) (V : List Int) (a : Option Addr) (cap : Nat) (c : List Int) (w : World) (hV : ValsAt w b V) (hn : V.length = n) (hb : n ≤ 1000000) (hc : ValRow w (.slice a c.length cap) (intVals c)) (hl : ∀ x ∈ c, x ≠ 0 ∧ x.natAbs < n) (res : Int × Bool) (hres : Hid (unitL V c 0 = res)) :
    Calls Try.prog 54 #[.slice (some ⟨b, 0, none⟩) n n, .slice a c.length cap] w fun e w' => e = .returned (.tuple #[.int .i64 res.1, .bool res.2]) ∧ w = w' := by
  have hcl := hc.len
  rw [intVals_length] at hcl
  unfold maxLen at hcl
  have HV := Lib.hid hV
  have H := Lib.hid hc
  have HL := Lib.hid hl
  have HN := Lib.hid hn
  clear hV hc hl hn
  go_enter Try.func54, Try.ntmps54
  go_wp2_with fail
  go_loop [6, 11] (fun s i => ∃ (k : Nat) (last : Int), i = .int .i64 k ∧ k ≤ c.length ∧ s = .int .i64 last ∧ -1000000 ≤ last ∧ last ≤ 1000000 ∧ unitL V (c.drop k) last = res) (fun _ i => c.length - (intOf i).toNat)
  case atStart => exact ⟨0, 0, rfl, Nat.zero_le _, rfl, by omega, by omega, hres.out⟩
  case round =>
    obtain ⟨k, last, rfl, hk, rfl, hl1, hl2, hu⟩ := hrel
    have HU := Lib.hid hu
    clear hu
    have k0 : (0 : Int) ≤ (k : Int) := by omega
    by_cases hlt : k < c.length
    · have k1 : (k : Int) < (c.length : Int) := by omega
      have hdk : decide (k < c.length) = true := decide_eq_true hlt
      obtain ⟨b2, off, rfl, _, hcx⟩ := int_at H.out k hlt
      have e : c.getD k 0 = c[k] := by simp [hlt]
      have HMEM := List.getElem_mem hlt
      have HAT := Lib.hid (unitL_at V c k last hlt)
      rw [HU.out] at HAT
      rw [← e] at HMEM
      have HM := Lib.hid HMEM
      clear e HMEM
      obtain ⟨x, hxx⟩ : ∃ x, c.getD k 0 = x := ⟨_, rfl⟩
      rw [hxx] at hcx HAT HM
      clear hxx
      have hx0 := (HL.out x HM.out).1
      have hxn := (HL.out x HM.out).2
      have HX0 := Lib.hid hx0
      have hxr1 : -1000000 ≤ x := by omega
      have hxr2 : x ≤ 1000000 := by omega
      have hsm := ofV_small HV.out x
      obtain ⟨v, hv⟩ : ∃ v, ofV V x = v := ⟨_, rfl⟩
      rw [hv] at hsm HAT
      have HOV := Lib.hid hv
      clear hv hx0
      have hv3 : v = -1 ∨ v = 0 ∨ v = 1 := by omega
      clear hsm
      rcases hv3 with rfl | rfl | rfl
      · have HNX : Hid (unitL V (c.drop (k + 1)) last = res) := Lib.hid (by have := HAT.out; simpa using this.symm)
        go_wp2_with fail
        refine (of_any b n V x _ HV.out HN.out HX0.out hxn hb (-1) HOV).mono ?_
        rintro e w1 ⟨rfl, rfl⟩
        go_wp2_with fail
        refine (of_any b n V x _ HV.out HN.out HX0.out hxn hb (-1) HOV).mono ?_
        rintro e w1 ⟨rfl, rfl⟩
        go_wp2_with fail
        refine (of_any b n V x _ HV.out HN.out HX0.out hxn hb (-1) HOV).mono ?_
        rintro e w1 ⟨rfl, rfl⟩
        go_wp2_with fail
        go_round
        case rel => exact ⟨k + 1, last, by go_num, by omega, rfl, hl1, hl2, HNX.out⟩
        case measure => simp [intOf]; omega
      · by_cases hcl2 : last ≠ 0 ∧ x ≠ last
        · have HR : Hid (res = (0, true)) := Lib.hid (by have := HAT.out; rw [if_neg (by omega), if_pos ⟨rfl, hcl2⟩] at this; exact this)
          have d1 := ine hcl2.1
          have d2 := ine hcl2.2
          clear hcl2
          go_wp2_with fail
          refine (of_any b n V x _ HV.out HN.out HX0.out hxn hb 0 HOV).mono ?_
          rintro e w1 ⟨rfl, rfl⟩
          go_wp2_with fail
          refine (of_any b n V x _ HV.out HN.out HX0.out hxn hb 0 HOV).mono ?_
          rintro e w1 ⟨rfl, rfl⟩
          go_wp2_with fail
          go_ret2
          exact ⟨tuple_ib (by rw [HR.out]), rfl⟩
        · have HNX : Hid (unitL V (c.drop (k + 1)) x = res) := Lib.hid (by have := HAT.out; rw [if_neg (by omega), if_neg (fun h => hcl2 h.2), if_pos rfl] at this; exact this.symm)
          have hor : last = 0 ∨ (last ≠ 0 ∧ x = last) := by omega
          clear hcl2
          rcases hor with h0 | ⟨h0, h1⟩
          case' inl =>
            have d1 := inf h0
            clear h0
          case' inr =>
            have d1 := ine h0
            have d2 := inf h1
            clear h0 h1
          all_goals
            go_wp2_with fail
            refine (of_any b n V x _ HV.out HN.out HX0.out hxn hb 0 HOV).mono ?_
            rintro e w1 ⟨rfl, rfl⟩
            go_wp2_with fail
            refine (of_any b n V x _ HV.out HN.out HX0.out hxn hb 0 HOV).mono ?_
            rintro e w1 ⟨rfl, rfl⟩
            go_wp2_with fail
            refine (of_any b n V x _ HV.out HN.out HX0.out hxn hb 0 HOV).mono ?_
            rintro e w1 ⟨rfl, rfl⟩
            go_wp2_with fail
            go_round
            case rel => exact ⟨k + 1, x, by go_num, by omega, rfl, hxr1, hxr2, HNX.out⟩
            case measure => simp [intOf]; omega
      · have HR : Hid (res = (0, true)) := Lib.hid (by have := HAT.out; rw [if_pos (by omega)] at this; exact this)
        go_wp2_with fail
        refine (of_any b n V x _ HV.out HN.out HX0.out hxn hb 1 HOV).mono ?_
        rintro e w1 ⟨rfl, rfl⟩
        go_wp2_with fail
        go_ret2
        exact ⟨tuple_ib (by rw [HR.out]), rfl⟩
    · have hdk : decide (k < c.length) = false := decide_eq_false hlt
      have HR : Hid ((last, last != 0) = res) := Lib.hid (by have := HU.out; rw [show k = c.length from by omega, unitL_end] at this; exact this)
      have HLT := Lib.hid hlt
      clear hlt
      go_wp2_with fail
      go_ret2
      exact ⟨tuple_ib (by rw [HR.out]), rfl⟩
end Go.Proofs.Yteimfcokobdldaa
