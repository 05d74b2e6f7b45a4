/- CnfHolds. -/
import Derived.Test.YteimfcokobdldaaCnAE
namespace Go.Proofs.Yteimfcokobdldaa
open Go.RowKit
set_option linter.unusedVariables false
theorem lits_chkF {n : Int} {LL : List (List Int)} (h : chkF n LL = 0) : ∀ c ∈ LL, Lits c := fun c hc => by
  have := chkF_ok h
  exact lits_okC (this.2.2.2 c hc) (by omega)
set_option maxRecDepth 100000 in
set_option maxHeartbeats 3200000 in
theorem cnfHolds_list (n : Int) (va : Option Addr) (vc : Nat) (LL : List (List Int)) (a : Option Addr) (cap : Nat) (M : List Bool) (w : World) (hL : RowOf 1 IntsC w (.slice va LL.length vc) LL) (h : ValRow w (.slice a M.length cap) (boolVals M)) (hn : -9223372036854775808 ≤ n ∧ n ≤ 9223372036854775807) :
    Calls Try.prog 6 #[.int .i64 n, .slice va LL.length vc, .slice a M.length cap] w fun e w' => e = .returned (.bool true) ∧ Below w.heap.size w w' := by
  have hma := h.len
  rw [boolVals_length] at hma
  have hml := hL.len
  unfold maxLen at hma hml
  have HM := Lib.hid h
  have HL := Lib.hid hL
  clear h hL
  obtain ⟨u, hu⟩ : ∃ u, decide (fewP LL 200 40) = u := ⟨_, rfl⟩
  have HU := Lib.hid hu
  obtain ⟨v, hv⟩ : ∃ v, chkF n LL = v := ⟨_, rfl⟩
  have HV := Lib.hid hv
  clear hu hv
  by_cases hlm : M.length ≤ 500
  · have d1 : decide ((500 : Int) < (M.length : Int)) = false := decide_eq_false (by omega)
    have d1' : decide (500 < M.length) = false := decide_eq_false (by omega)
    go_enter Try.func6, Try.ntmps6
    go_wp2_with fail
    refine (resolved_true _).mono ?_
    rintro e w1 ⟨rfl, hb1⟩
    have HB1 := Lib.hid hb1
    have HM1 := Lib.hid (HM.out.below hb1)
    have HL1 := Lib.hid (HL.out.below intsC_lasts hb1)
    clear hb1
    go_wp2_with fail
    refine (few_any va vc LL 200 40 _ HL1.out (by omega) (by omega) u HU).mono ?_
    rintro e w2 ⟨rfl, rfl⟩
    cases u with
    | false =>
      go_wp2_with fail
      refine (resolved_end HB1.out).mono ?_
      rintro e w3 ⟨rfl, hb3⟩
      have HB3 := Lib.hid hb3
      clear hb3
      go_wp2_with fail
      go_ret
      exact ⟨rfl, HB3.out⟩
    | true =>
      go_wp2_with fail
      refine (rcheck_any va vc LL n _ HL1.out hn.2 v HV).mono ?_
      rintro e w2 ⟨rfl, rfl⟩
      by_cases hv0 : v = 0
      · subst hv0
        have HLL := Lib.hid (lits_chkF HV.out)
        obtain ⟨t, ht⟩ : ∃ t, holdsB LL M = t := ⟨_, rfl⟩
        have HT := Lib.hid ht
        clear ht
        have htt : (t != t) = false := by simp
        have hb2 := below_lit w1 (.cells #[.int .i64 n, .slice va LL.length vc] 26)
        have HM2 := Lib.hid (HM1.out.below hb2)
        have HL2 := Lib.hid (HL1.out.below intsC_lasts hb2)
        have HB2 := Lib.hid (HB1.out.trans (hb2.mono HB1.out.size))
        clear hb2
        go_wp2_with fail
        refine (holds_any n va vc LL a cap M _ HL2.out HM2.out HLL.out t HT).mono ?_
        rintro e w3 ⟨rfl, hb3⟩
        have HM3 := Lib.hid (HM2.out.below hb3)
        have HL3 := Lib.hid (HL2.out.below intsC_lasts hb3)
        have HB3 := Lib.hid (HB2.out.trans (hb3.mono HB2.out.size))
        clear hb3
        go_wp2_with fail
        refine (rholds_any va vc LL a cap M _ HL3.out HM3.out HLL.out t HT).mono ?_
        rintro e w4 ⟨rfl, rfl⟩
        by_cases hl0 : LL.length = 0
        · have e1 : ((LL.length : Int) == 0) = true := iet (by omega)
          have e1' : (LL.length == 0) = true := by simp [hl0]
          clear hl0
          go_wp2_with fail
          go_quiet (fail)
          go_wp2_with fail
          go_ret
          exact ⟨rfl, below_drewN' HB3.out _⟩
        · have e1 : ((LL.length : Int) == 0) = false := ief (by omega)
          have e1' : (LL.length == 0) = false := by simp [hl0]
          have lp : 0 < LL.length := by omega
          have lpI : (0 : Int) < (LL.length : Int) := by omega
          obtain ⟨b, off, ca, cc, rfl, _, hc, hrw, _⟩ := ints_row HL3.out 0 (by omega)
          have e : LL.getD 0 [] = LL[0] := by simp [lp]
          have HLC := Lib.hid (HLL.out LL[0] (List.getElem_mem lp))
          rw [← e] at HLC
          clear e
          obtain ⟨c, hcc⟩ : ∃ c, LL.getD 0 [] = c := ⟨_, rfl⟩
          rw [hcc, Nat.add_zero] at hc
          rw [hcc] at hrw HLC
          have hcl := hrw.len
          rw [intVals_length] at hcl
          unfold maxLen at hcl
          obtain ⟨nl, hnl⟩ : ∃ nl, LL.length = nl := ⟨_, rfl⟩
          rw [hnl] at e1 e1' lp lpI ⊢
          by_cases hc0 : c.length = 0
          · have e2 : ((c.length : Int) == 0) = true := iet (by omega)
            have e2' : (c.length == 0) = true := by simp [hc0]
            clear hc0 hcc hnl hl0 hrw
            go_wp2_with fail
            go_quiet (fail)
            go_wp2_with fail
            go_ret
            exact ⟨rfl, below_drewN' HB3.out _⟩
          · have e2 : ((c.length : Int) == 0) = false := ief (by omega)
            have e2' : (c.length == 0) = false := by simp [hc0]
            have cp : 0 < c.length := by omega
            have cpI : (0 : Int) < (c.length : Int) := by omega
            obtain ⟨b2, off2, rfl, _, hx⟩ := int_at hrw 0 (by omega)
            have e : c.getD 0 0 = c[0] := by simp [cp]
            have HXB := Lib.hid (HLC.out c[0] (List.getElem_mem cp))
            rw [← e] at HXB
            clear e
            obtain ⟨x, hxx⟩ : ∃ x, c.getD 0 0 = x := ⟨_, rfl⟩
            rw [hxx, Nat.add_zero] at hx
            rw [hxx] at HXB
            obtain ⟨y, hy⟩ : ∃ y, trueB M x = y := ⟨_, rfl⟩
            have HY := Lib.hid hy
            have HT1 := fun (W : World) (hW : ValRow W (.slice a M.length cap) (boolVals M)) => Lib.hid ((true_any x a cap M W hW HXB.out.1 HXB.out.2.1 HXB.out.2.2 y HY).mono fun _ _ h => (⟨h.1, h.2.symm⟩ : _ ∧ _))
            have HT2 := fun (W : World) (hW : ValRow W (.slice a M.length cap) (boolVals M)) => Lib.hid ((rtrue_any x a cap M W hW HXB.out.1 HXB.out.2.1 HXB.out.2.2 y HY).mono fun _ _ h => (⟨h.1, h.2.symm⟩ : _ ∧ _))
            have hyy : (y == y) = true := by simp
            obtain ⟨cl, hcl2⟩ : ∃ cl, c.length = cl := ⟨_, rfl⟩
            rw [hcl2] at e2 e2' cp cpI hc
            clear hc0 hcc hnl hl0 hrw hxx hy hcl2 hcl
            go_wp2_with fail
            go_quiet (first | (go_at_call 28; exact Calls.quiet_of_same ((HT1 _ (HM3.out.drewN _)).out)) | (go_at_call 29; exact Calls.quiet_of_same ((HT2 _ (HM3.out.drewN _)).out)))
            go_wp2_with fail
            go_ret
            exact ⟨rfl, below_drewN' HB3.out _⟩
      · have e0 := ine hv0
        clear hv0
        go_wp2_with fail
        refine (resolved_end HB1.out).mono ?_
        rintro e w3 ⟨rfl, hb3⟩
        have HB3 := Lib.hid hb3
        clear hb3
        go_wp2_with fail
        go_ret
        exact ⟨rfl, HB3.out⟩
  · have d1 : decide ((500 : Int) < (M.length : Int)) = true := decide_eq_true (by omega)
    have d1' : decide (500 < M.length) = true := decide_eq_true (by omega)
    go_enter Try.func6, Try.ntmps6
    go_wp2_with fail
    refine (resolved_true _).mono ?_
    rintro e w1 ⟨rfl, hb1⟩
    have HB1 := Lib.hid hb1
    clear hb1
    go_wp2_with fail
    refine (resolved_end HB1.out).mono ?_
    rintro e w3 ⟨rfl, hb3⟩
    have HB3 := Lib.hid hb3
    clear hb3
    go_wp2_with fail
    go_ret
    exact ⟨rfl, HB3.out⟩
theorem cnfHolds_walk (a0 : Int) (w0 : (Lit.int .i64 a0).wf = true) (a1 : Option Addr) (len1 cap1 : Nat) (z1 : List (List Int)) (a2 : Option Addr) (len2 cap2 : Nat) (z2 : List (Bool)) (w : World) (w1 : RowOf 1 IntsC w (.slice a1 len1 cap1) z1) (w2 : RowOf 1 BoolC w (.slice a2 len2 cap2) z2) :
    Calls Try.prog 6 #[.int .i64 a0, .slice a1 len1 cap1, .slice a2 len2 cap2] w fun e w' => e = .returned (.bool true) ∧ Below w.heap.size w w' := by
  obtain ⟨a', cap', he⟩ := w1.shape
  simp only [Value.slice.injEq] at he
  obtain ⟨_, hlen, _⟩ := he
  obtain ⟨a'', cap'', he⟩ := w2.shape
  simp only [Value.slice.injEq] at he
  obtain ⟨_, hlen2, _⟩ := he
  subst hlen hlen2
  exact cnfHolds_list a0 a1 cap1 z1 a2 cap2 z2 w w1 (boolC_cells w2) (int_wf w0)
end Go.Proofs.Yteimfcokobdldaa
