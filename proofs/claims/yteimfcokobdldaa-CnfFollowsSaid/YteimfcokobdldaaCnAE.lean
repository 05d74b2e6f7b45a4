/- CnfResolves. -/
import Derived.Test.YteimfcokobdldaaCnAD
namespace Go.Proofs.Yteimfcokobdldaa
open Go.RowKit
set_option linter.unusedVariables false
theorem trueB_neg (M : List Bool) (v : Int) (h0 : v ≠ 0) (h : trueB M v = true) : trueB M (-v) = false := by
  unfold trueB at h ⊢
  rw [Int.natAbs_neg]
  obtain ⟨u, hu⟩ : ∃ u, (decide (v.natAbs ≤ M.length) && M.getD (v.natAbs - 1) false) = u := ⟨_, rfl⟩
  rw [hu] at h ⊢
  by_cases hp : 0 < v
  · rw [decide_eq_true hp] at h
    rw [decide_eq_false (by omega : ¬ 0 < -v)]
    cases u <;> simp_all
  · rw [decide_eq_false hp] at h
    rw [decide_eq_true (by omega : 0 < -v)]
    cases u <;> simp_all
/-- what follows from two clauses holds where both do -/
theorem res_follows {A B : List Int} {v : Int} (h0 : v ≠ 0) : ∀ M : List Bool, holdsB [A, B] M = true → (resL A B v).any (trueB M) = true := by
  intro M hM
  have hM' := hM
  unfold holdsB at hM'
  rw [List.all_eq_true] at hM'
  obtain ⟨x, hx, hxt⟩ := List.any_eq_true.1 (hM' A (by simp))
  obtain ⟨y, hy, hyt⟩ := List.any_eq_true.1 (hM' B (by simp))
  have key : ∃ z ∈ bothL A B v, trueB M z = true := by
    by_cases e1 : x = v
    · by_cases e2 : y = -v
      · rw [e1] at hxt; rw [e2] at hyt
        rw [trueB_neg M v h0 hxt] at hyt; cases hyt
      · exact ⟨y, List.mem_append.2 (.inr (List.mem_filter.2 ⟨hy, by simp [e2]⟩)), hyt⟩
    · exact ⟨x, List.mem_append.2 (.inl (List.mem_filter.2 ⟨hx, by simp [e1]⟩)), hxt⟩
  obtain ⟨z, hz, hzt⟩ := key
  exact List.any_eq_true.2 ⟨z, (normL_mem _ _).2 hz, hzt⟩
set_option maxRecDepth 100000 in
set_option maxHeartbeats 3200000 in
theorem cnfResolves_list (aa : Option Addr) (ac : Nat) (A : List Int) (ba : Option Addr) (bc : Nat) (B : List Int) (v : Int) (w : World) (ha : ValRow w (.slice aa A.length ac) (intVals A)) (hb : ValRow w (.slice ba B.length bc) (intVals B)) (hv : -9223372036854775808 ≤ v ∧ v ≤ 9223372036854775807) :
    Calls Try.prog 5 #[.slice aa A.length ac, .slice ba B.length bc, .int .i64 v] w fun e w' => e = .returned (.bool true) ∧ Below w.heap.size w w' := by
  have hma := ha.len
  have hmb := hb.len
  rw [intVals_length] at hma hmb
  unfold maxLen at hma hmb
  have HA := Lib.hid ha
  have HB := Lib.hid hb
  clear ha hb
  obtain ⟨u1, hu1⟩ : ∃ u, okC (max 8 0) A = u := ⟨_, rfl⟩
  obtain ⟨u2, hu2⟩ : ∃ u, okC (max 8 0) B = u := ⟨_, rfl⟩
  have HU1 := Lib.hid hu1
  have HU2 := Lib.hid hu2
  clear hu1 hu2
  have e0 : chkV true = 0 := rfl
  have e8 : chkV false = 8 := rfl
  by_cases hlA : A.length ≤ 10
  · have d1 : decide ((10 : Int) < (A.length : Int)) = false := decide_eq_false (by omega)
    have d1' : decide (10 < A.length) = false := decide_eq_false (by omega)
    by_cases hlB : B.length ≤ 10
    · have d2 : decide ((10 : Int) < (B.length : Int)) = false := decide_eq_false (by omega)
      have d2' : decide (10 < B.length) = false := decide_eq_false (by omega)
      go_enter Try.func5, Try.ntmps5
      go_wp2_with fail
      refine (resolved_true _).mono ?_
      rintro e w1 ⟨rfl, hb1⟩
      have HB1 := Lib.hid hb1
      have HA1 := Lib.hid (HA.out.below hb1)
      have HBR1 := Lib.hid (HB.out.below hb1)
      clear hb1
      go_wp2_with fail
      refine (rcheckClause_any aa ac A 8 _ HA1.out (by omega) u1 HU1).mono ?_
      rintro e w2 ⟨rfl, rfl⟩
      cases u1 with
      | false =>
        go_wp2_with fail
        refine (resolved_end HB1.out).mono ?_
        rintro e w3 ⟨rfl, hb3⟩
        have HB3 := Lib.hid hb3
        clear hb3
        go_wp2_with fail
        go_ret
        exact ⟨rfl, HB3.out⟩
      | true =>
        go_wp2_with fail
        refine (rcheckClause_any ba bc B 8 _ HBR1.out (by omega) u2 HU2).mono ?_
        rintro e w2 ⟨rfl, rfl⟩
        cases u2 with
        | false =>
          go_wp2_with fail
          refine (resolved_end HB1.out).mono ?_
          rintro e w3 ⟨rfl, hb3⟩
          have HB3 := Lib.hid hb3
          clear hb3
          go_wp2_with fail
          go_ret
          exact ⟨rfl, HB3.out⟩
        | true =>
          have HLA : Hid (Lits A) := Lib.hid (lits_okC HU1.out (by omega))
          have HLB : Hid (Lits B) := Lib.hid (lits_okC HU2.out (by omega))
          go_wp2_with fail
          refine (resolve_any aa ac A ba bc B v _ HA1.out HBR1.out HLA.out HLB.out (by omega) (by omega) hv).mono ?_
          rintro e w3 (⟨hr, rfl, hb3⟩ | ⟨hr, ra, rc, rfl, hrow, hb3⟩)
          · have HB3 := Lib.hid (HB1.out.trans (hb3.mono HB1.out.size))
            have HA3 := Lib.hid (HA1.out.below hb3)
            have HBR3 := Lib.hid (HBR1.out.below hb3)
            have HR := Lib.hid hr
            clear hb3 hr
            go_wp2_with fail
            refine (rresolve_any aa ac A ba bc B v _ HA3.out HBR3.out HLA.out HLB.out (by omega) (by omega) hv).mono ?_
            rintro e w4 (⟨_, rfl, hb4⟩ | ⟨hr', _⟩)
            · have HB4 := Lib.hid (HB3.out.trans (hb4.mono HB3.out.size))
              clear hb4
              go_wp2_with fail
              refine (ints_same _ _ [] _ (.inl ⟨none, 0, rfl, rfl⟩) (.inl ⟨none, 0, rfl, rfl⟩)).mono ?_
              rintro e w5 ⟨rfl, m, hw5⟩
              have HB5 : Hid (Below w.heap.size w w5) := Lib.hid (by rw [hw5]; exact below_drewN' HB4.out m)
              clear hw5
              go_wp2_with fail
              go_ret
              exact ⟨rfl, HB5.out⟩
            · rw [HR.out] at hr'; cases hr'
          · have HB3 := Lib.hid (HB1.out.trans (hb3.mono HB1.out.size))
            have HA3 := Lib.hid (HA1.out.below hb3)
            have HBR3 := Lib.hid (HBR1.out.below hb3)
            have HR := Lib.hid hr
            have HX3 := Lib.hid hrow
            clear hb3 hr hrow
            go_wp2_with fail
            refine (rresolve_any aa ac A ba bc B v _ HA3.out HBR3.out HLA.out HLB.out (by omega) (by omega) hv).mono ?_
            rintro e w4 (⟨hr', _⟩ | ⟨_, sa, sc, rfl, hrow, hb4⟩)
            · rw [HR.out] at hr'; cases hr'
            · have HB4 := Lib.hid (HB3.out.trans (hb4.mono HB3.out.size))
              have HA4 := Lib.hid (HA3.out.below hb4)
              have HBR4 := Lib.hid (HBR3.out.below hb4)
              have HX4 := Lib.hid (HX3.out.below hb4)
              have HY4 := Lib.hid hrow
              have hv0 : v ≠ 0 := by
                intro e
                have := HR.out
                unfold resB at this
                rw [e] at this
                simp at this
              have HV0 := Lib.hid hv0
              have HRL : Hid (Lits (resL A B v)) := Lib.hid (lits_norm (lits_both v HLA.out HLB.out))
              clear hb4 hrow hv0
              obtain ⟨RL, hRL⟩ : ∃ R, resL A B v = R := ⟨_, rfl⟩
              have HF : Hid (∀ M : List Bool, holdsB [A, B] M = true → RL.any (trueB M) = true) := Lib.hid (by rw [← hRL]; exact res_follows HV0.out)
              rw [hRL] at HX4 HY4 HRL ⊢
              clear hRL
              go_wp2_with fail
              refine (ints_same _ _ RL _ HX4.out HY4.out).mono ?_
              rintro e w5 ⟨rfl, m, hw5⟩
              have hb5 : Below w4.heap.size w4 w5 := by rw [hw5]; exact below_drewN' (Below.refl _ _) m
              have HB5 := Lib.hid (HB4.out.trans (hb5.mono HB4.out.size))
              have HA5 := Lib.hid (HA4.out.below hb5)
              have HBR5 := Lib.hid (HBR4.out.below hb5)
              have HX5 := Lib.hid (HX4.out.below hb5)
              have hb6 := below_lit w5 (.cells #[.slice aa A.length ac, .slice ba B.length bc] 31)
              have HTW := Lib.hid (two_row HA5.out HBR5.out 31 HLA.out HLB.out)
              have HX6 := Lib.hid (HX5.out.below hb6)
              have HB6 := Lib.hid (HB5.out.trans (hb6.mono HB5.out.size))
              clear hw5 hb5 hb6
              go_wp2_with fail
              refine (follows_yes 8 _ 2 [A, B] ra rc RL _ HTW.out HX6.out (by omega) (fun c hc => by
                simp at hc
                rcases hc with rfl | rfl
                · exact HLA.out
                · exact HLB.out) HRL.out HF).mono ?_
              rintro e w7 ⟨rfl, hb7⟩
              have HB7 := Lib.hid (HB6.out.trans (hb7.mono HB6.out.size))
              clear hb7
              go_wp2_with fail
              go_ret
              exact ⟨rfl, HB7.out⟩
    · have d2 : decide ((10 : Int) < (B.length : Int)) = true := decide_eq_true (by omega)
      have d2' : decide (10 < B.length) = true := decide_eq_true (by omega)
      go_enter Try.func5, Try.ntmps5
      go_wp2_with fail
      refine (resolved_true _).mono ?_
      rintro e w1 ⟨rfl, hb1⟩
      have HB1 := Lib.hid hb1
      clear hb1
      go_wp2_with fail
      refine (resolved_end HB1.out).mono ?_
      rintro e w3 ⟨rfl, hb3⟩
      have HB3 := Lib.hid hb3
      clear hb3
      go_wp2_with fail
      go_ret
      exact ⟨rfl, HB3.out⟩
  · have d1 : decide ((10 : Int) < (A.length : Int)) = true := decide_eq_true (by omega)
    have d1' : decide (10 < A.length) = true := decide_eq_true (by omega)
    go_enter Try.func5, Try.ntmps5
    go_wp2_with fail
    refine (resolved_true _).mono ?_
    rintro e w1 ⟨rfl, hb1⟩
    have HB1 := Lib.hid hb1
    clear hb1
    go_wp2_with fail
    refine (resolved_end HB1.out).mono ?_
    rintro e w3 ⟨rfl, hb3⟩
    have HB3 := Lib.hid hb3
    clear hb3
    go_wp2_with fail
    go_ret
    exact ⟨rfl, HB3.out⟩
theorem cnfResolves_walk (a0 : Option Addr) (len0 cap0 : Nat) (z0 : List Int) (a1 : Option Addr) (len1 cap1 : Nat) (z1 : List Int) (a2 : Int) (w2 : (Lit.int .i64 a2).wf = true) (w : World) (w0 : IsRow .i64 w a0 len0 cap0 z0) (w1 : IsRow .i64 w a1 len1 cap1 z1) :
    Calls Try.prog 5 #[.slice a0 len0 cap0, .slice a1 len1 cap1, .int .i64 a2] w fun e w' => e = .returned (.bool true) ∧ Below w.heap.size w w' := by
  obtain ⟨l, h1, h2, _⟩ := ints_arg w0
  obtain ⟨m, g1, g2, _⟩ := ints_arg w1
  subst h2 g2
  exact cnfResolves_list a0 cap0 l a1 cap1 m a2 w h1 g1 (int_wf w2)
end Go.Proofs.Yteimfcokobdldaa
