/- CnfSubsumes. -/
import Derived.Test.YteimfcokobdldaaCnAC
namespace Go.Proofs.Yteimfcokobdldaa
open Go.RowKit
set_option linter.unusedVariables false
theorem sub_follows {a b : List Int} (h : subB a b = true) : ∀ M : List Bool, holdsB [a] M = true → b.any (trueB M) = true := by
  intro M hM
  rw [holdsB_one] at hM
  obtain ⟨x, hx, hxt⟩ := List.any_eq_true.1 hM
  exact List.any_eq_true.2 ⟨x, hasB_mem (List.all_eq_true.1 h x hx), hxt⟩
theorem subB_snoc (a b : List Int) (x : Int) : subB (a ++ [x]) b = (subB a b && hasB b x) := by unfold subB; rw [List.all_append]; simp
theorem resolved_end {w w1 : World} (h : Below w.heap.size w w1) : Calls Try.prog 10 #[] w1 fun e w' => e = .returned (.bool true) ∧ Below w.heap.size w w' :=
  (resolved_true w1).mono fun _ _ ⟨h1, h2⟩ => ⟨h1, h.trans (h2.mono h.size)⟩
set_option maxRecDepth 100000 in
set_option maxHeartbeats 3200000 in
theorem cnfSubsumes_list (aa : Option Addr) (ac : Nat) (A : List Int) (ba : Option Addr) (bc : Nat) (B : List Int) (w : World) (ha : ValRow w (.slice aa A.length ac) (intVals A)) (hb : ValRow w (.slice ba B.length bc) (intVals B)) :
    Calls Try.prog 8 #[.slice aa A.length ac, .slice ba B.length bc] w fun e w' => e = .returned (.bool true) ∧ Below w.heap.size w w' := by
  have hma := ha.len
  have hmb := hb.len
  rw [intVals_length] at hma hmb
  unfold maxLen at hma hmb
  have HA := Lib.hid ha
  have HB := Lib.hid hb
  clear ha hb
  obtain ⟨u1, hu1⟩ : ∃ u, okC (max 8 0) A = u := ⟨_, rfl⟩
  obtain ⟨u2, hu2⟩ : ∃ u, okC (max 8 0) B = u := ⟨_, rfl⟩
  have HU1 := Lib.hid hu1
  have HU2 := Lib.hid hu2
  clear hu1 hu2
  have e0 : chkV true = 0 := rfl
  have e8 : chkV false = 8 := rfl
  by_cases hlA : A.length ≤ 10
  · have d1 : decide ((10 : Int) < (A.length : Int)) = false := decide_eq_false (by omega)
    have d1' : decide (10 < A.length) = false := decide_eq_false (by omega)
    by_cases hlB : B.length ≤ 10
    · have d2 : decide ((10 : Int) < (B.length : Int)) = false := decide_eq_false (by omega)
      have d2' : decide (10 < B.length) = false := decide_eq_false (by omega)
      go_enter Try.func8, Try.ntmps8
      go_wp2_with fail
      refine (resolved_true _).mono ?_
      rintro e w1 ⟨rfl, hb1⟩
      have HB1 := Lib.hid hb1
      have HA1 := Lib.hid (HA.out.below hb1)
      have HBR1 := Lib.hid (HB.out.below hb1)
      clear hb1
      go_wp2_with fail
      refine (rcheckClause_any aa ac A 8 _ HA1.out (by omega) u1 HU1).mono ?_
      rintro e w2 ⟨rfl, rfl⟩
      cases u1 with
      | false =>
        go_wp2_with fail
        refine (resolved_end HB1.out).mono ?_
        rintro e w3 ⟨rfl, hb3⟩
        have HB3 := Lib.hid hb3
        clear hb3
        go_wp2_with fail
        go_ret
        exact ⟨rfl, HB3.out⟩
      | true =>
        go_wp2_with fail
        refine (rcheckClause_any ba bc B 8 _ HBR1.out (by omega) u2 HU2).mono ?_
        rintro e w2 ⟨rfl, rfl⟩
        cases u2 with
        | false =>
          go_wp2_with fail
          refine (resolved_end HB1.out).mono ?_
          rintro e w3 ⟨rfl, hb3⟩
          have HB3 := Lib.hid hb3
          clear hb3
          go_wp2_with fail
          go_ret
          exact ⟨rfl, HB3.out⟩
        | true =>
          have HLA : Hid (Lits A) := Lib.hid (lits_okC HU1.out (by omega))
          have HLB : Hid (Lits B) := Lib.hid (lits_okC HU2.out (by omega))
          go_wp2_with fail
          go_loop [5, 6] (fun s i => ∃ (k : Nat) (v : Bool), i = .int .i64 k ∧ k ≤ A.length ∧ s = .bool v ∧ subB (A.take k) B = v) (fun _ i => A.length - (intOf i).toNat)
          case atStart => exact ⟨0, true, rfl, Nat.zero_le _, rfl, rfl⟩
          case round =>
            obtain ⟨k, v, rfl, hk, rfl, hv⟩ := hrel
            have HV := Lib.hid hv
            clear hv
            have k0 : (0 : Int) ≤ (k : Int) := by omega
            by_cases hlt : k < A.length
            · have k1 : (k : Int) < (A.length : Int) := by omega
              have hdk : decide (k < A.length) = true := decide_eq_true hlt
              obtain ⟨b, off, rfl, _, hc⟩ := int_at HA1.out k hlt
              have e : A.getD k 0 = A[k] := by simp [hlt]
              have HTK := Lib.hid (List.take_succ_eq_append_getElem hlt)
              rw [← e] at HTK
              clear e
              obtain ⟨x, hx⟩ : ∃ x, A.getD k 0 = x := ⟨_, rfl⟩
              rw [hx] at hc HTK
              clear hx
              cases v with
              | false =>
                have HNX : Hid (subB (A.take (k + 1)) B = false) := Lib.hid (by rw [HTK.out, subB_snoc, HV.out]; rfl)
                go_wp2_with fail
                go_round
                case rel => exact ⟨k + 1, false, by go_num, by omega, rfl, HNX.out⟩
                case measure => simp [intOf]; omega
              | true =>
                obtain ⟨u, hu⟩ : ∃ u, hasB B x = u := ⟨_, rfl⟩
                have HU := Lib.hid hu
                have HNX : Hid (subB (A.take (k + 1)) B = u) := Lib.hid (by rw [HTK.out, subB_snoc, HV.out, hu]; rfl)
                clear hu
                go_wp2_with fail
                refine (has_any ba bc B x _ HBR1.out u HU).mono ?_
                rintro e w3 ⟨rfl, rfl⟩
                go_wp2_with fail
                go_round
                case rel => exact ⟨k + 1, u, by go_num, by omega, rfl, HNX.out⟩
                case measure => simp [intOf]; omega
            · have hdk : decide (k < A.length) = false := decide_eq_false hlt
              have HSB : Hid (subB A B = v) := Lib.hid (by have := HV.out; rwa [List.take_of_length_le (by omega)] at this)
              have HLT := Lib.hid hlt
              clear hlt
              go_wp2_with fail
              refine (subsumes_any aa ac A ba bc B _ HA1.out HBR1.out v HSB).mono ?_
              rintro e w3 ⟨rfl, hb3⟩
              have HB3 := Lib.hid (HB1.out.trans (hb3.mono HB1.out.size))
              have HA3 := Lib.hid (HA1.out.below hb3)
              have HBR3 := Lib.hid (HBR1.out.below hb3)
              clear hb3
              cases v with
              | false =>
                go_wp2_with fail
                go_ret
                exact ⟨rfl, HB3.out⟩
              | true =>
                have hb4 := below_lit w3 (.cells #[.slice aa A.length ac] 31)
                have HR := Lib.hid (one_row HA3.out 31 (litsR HLA.out))
                have HBR4 := Lib.hid (HBR3.out.below hb4)
                have HB4 := Lib.hid (HB3.out.trans (hb4.mono HB3.out.size))
                clear hb4
                go_wp2_with fail
                refine (follows_yes 8 _ 1 [A] ba bc B _ HR.out HBR4.out (by omega) (fun c hc => by rw [List.mem_singleton] at hc; rw [hc]; exact HLA.out) HLB.out (Lib.hid (sub_follows HSB.out))).mono ?_
                rintro e w5 ⟨rfl, hb5⟩
                have HB5 := Lib.hid (HB4.out.trans (hb5.mono HB4.out.size))
                clear hb5
                go_wp2_with fail
                go_ret
                exact ⟨rfl, HB5.out⟩
    · have d2 : decide ((10 : Int) < (B.length : Int)) = true := decide_eq_true (by omega)
      have d2' : decide (10 < B.length) = true := decide_eq_true (by omega)
      go_enter Try.func8, Try.ntmps8
      go_wp2_with fail
      refine (resolved_true _).mono ?_
      rintro e w1 ⟨rfl, hb1⟩
      have HB1 := Lib.hid hb1
      clear hb1
      go_wp2_with fail
      refine (resolved_end HB1.out).mono ?_
      rintro e w3 ⟨rfl, hb3⟩
      have HB3 := Lib.hid hb3
      clear hb3
      go_wp2_with fail
      go_ret
      exact ⟨rfl, HB3.out⟩
  · have d1 : decide ((10 : Int) < (A.length : Int)) = true := decide_eq_true (by omega)
    have d1' : decide (10 < A.length) = true := decide_eq_true (by omega)
    go_enter Try.func8, Try.ntmps8
    go_wp2_with fail
    refine (resolved_true _).mono ?_
    rintro e w1 ⟨rfl, hb1⟩
    have HB1 := Lib.hid hb1
    clear hb1
    go_wp2_with fail
    refine (resolved_end HB1.out).mono ?_
    rintro e w3 ⟨rfl, hb3⟩
    have HB3 := Lib.hid hb3
    clear hb3
    go_wp2_with fail
    go_ret
    exact ⟨rfl, HB3.out⟩
theorem cnfSubsumes_walk (a0 : Option Addr) (len0 cap0 : Nat) (z0 : List Int) (a1 : Option Addr) (len1 cap1 : Nat) (z1 : List Int) (w : World) (w0 : IsRow .i64 w a0 len0 cap0 z0) (w1 : IsRow .i64 w a1 len1 cap1 z1) :
    Calls Try.prog 8 #[.slice a0 len0 cap0, .slice a1 len1 cap1] w fun e w' => e = .returned (.bool true) ∧ Below w.heap.size w w' := by
  obtain ⟨l, h1, h2, _⟩ := ints_arg w0
  obtain ⟨m, g1, g2, _⟩ := ints_arg w1
  subst h2 g2
  exact cnfSubsumes_list a0 cap0 l a1 cap1 m w h1 g1
end Go.Proofs.Yteimfcokobdldaa
