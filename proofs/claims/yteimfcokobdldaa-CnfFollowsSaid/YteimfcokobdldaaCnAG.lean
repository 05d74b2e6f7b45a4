/- CnfSpreads. -/
import Derived.Test.YteimfcokobdldaaCnAF
namespace Go.Proofs.Yteimfcokobdldaa
open Go.RowKit
set_option linter.unusedVariables false
theorem absLits {n : Nat} {c : List Int} (h : okC n c = true) : ∀ x ∈ c, x ≠ 0 ∧ x.natAbs ≤ n := fun x hx => by have := okC_mem h hx; omega
set_option maxRecDepth 100000 in
set_option maxHeartbeats 3200000 in
theorem cnfSpreads_list (n : Int) (va : Option Addr) (vc : Nat) (LL : List (List Int)) (a : Option Addr) (cap : Nat) (c : List Int) (w : World) (hL : RowOf 1 IntsC w (.slice va LL.length vc) LL) (h : ValRow w (.slice a c.length cap) (intVals c)) (hn : -9223372036854775808 ≤ n ∧ n ≤ 9223372036854775807) :
    Calls Try.prog 7 #[.int .i64 n, .slice va LL.length vc, .slice a c.length cap] w fun e w' => e = .returned (.bool true) ∧ Below w.heap.size w w' := by
  have hma := h.len
  rw [intVals_length] at hma
  have hml := hL.len
  unfold maxLen at hma hml
  have HM := Lib.hid h
  have HL := Lib.hid hL
  clear h hL
  obtain ⟨u, hu⟩ : ∃ u, decide (fewP LL 60 12) = u := ⟨_, rfl⟩
  have HU := Lib.hid hu
  clear hu
  by_cases hn3 : n ≤ 30
  · have d0 : decide ((30 : Int) < n) = false := decide_eq_false (by omega)
    by_cases hlc : c.length ≤ 40
    · have d1 : decide ((40 : Int) < (c.length : Int)) = false := decide_eq_false (by omega)
      have d1' : decide (40 < c.length) = false := decide_eq_false (by omega)
      go_enter Try.func7, Try.ntmps7
      go_wp2_with fail
      refine (resolved_true _).mono ?_
      rintro e w1 ⟨rfl, hb1⟩
      have HB1 := Lib.hid hb1
      have HM1 := Lib.hid (HM.out.below hb1)
      have HL1 := Lib.hid (HL.out.below intsC_lasts hb1)
      clear hb1
      go_wp2_with fail
      refine (few_any va vc LL 60 12 _ HL1.out (by omega) (by omega) u HU).mono ?_
      rintro e w2 ⟨rfl, rfl⟩
      cases u with
      | false =>
        go_wp2_with fail
        refine (resolved_end HB1.out).mono ?_
        rintro e w3 ⟨rfl, hb3⟩
        have HB3 := Lib.hid hb3
        clear hb3
        go_wp2_with fail
        go_ret
        exact ⟨rfl, HB3.out⟩
      | true =>
        have HFW : Hid (fewP LL 60 12) := Lib.hid (of_decide_eq_true HU.out)
        by_cases hok : chkF n LL = 0 ∧ okC n c = true
        · obtain ⟨hF, hC⟩ := hok
          have hcf := chkF_ok hF
          obtain ⟨N, rfl⟩ := Int.eq_ofNat_of_zero_le hcf.1
          have HF := Lib.hid hF
          have HC := Lib.hid hC
          have HLL := Lib.hid (lits_chkF hF)
          have HLC : Hid (Lits c) := Lib.hid (lits_okC hC (by omega))
          have HEQ := Lib.hid (rspread_eq N LL c (fun d hd => absLits (hcf.2.2.2 d hd)) (absLits hC))
          have hN4 : N ≤ 400 := by omega
          have hC' : Hid (okC (max (N : Int) 0) c = true) := Lib.hid (by rw [show max (N : Int) 0 = (N : Int) by omega]; exact hC)
          have hl1 : LL.length ≤ 60 := HFW.out.1
          have hv0 : chkV true = 0 := rfl
          obtain ⟨res, hres⟩ : ∃ r, spreadV N LL c = r := ⟨_, rfl⟩
          have HRES := Lib.hid hres
          rw [hres] at HEQ
          clear hF hC hcf hres
          go_wp2_with fail
          refine (spread_any N va vc LL a cap c _ HL1.out HM1.out HF HC res HRES).mono ?_
          rintro e w3 (⟨rfl, rfl, hb3⟩ | ⟨V, v, rfl, rfl, hv, hb3⟩)
          · have HB3 := Lib.hid (HB1.out.trans (hb3.mono HB1.out.size))
            have HM3 := Lib.hid (HM1.out.below hb3)
            have HL3 := Lib.hid (HL1.out.below intsC_lasts hb3)
            clear hb3
            go_wp2_with fail
            refine (rcheck_any va vc LL N _ HL3.out (by omega) 0 HF).mono ?_
            rintro e w4 ⟨rfl, rfl⟩
            go_wp2_with fail
            refine (rcheckClause_any a cap c N _ HM3.out (by omega) true hC').mono ?_
            rintro e w4 ⟨rfl, rfl⟩
            go_wp2_with fail
            refine (rspread_any N va vc LL a cap c _ HL3.out HM3.out hN4 HLL.out HLC.out (by omega) (by omega) _ HEQ).mono ?_
            rintro e w5 (⟨_, rfl, hb5⟩ | ⟨l, sa, sc, hl, _⟩)
            · have HB5 := Lib.hid (HB3.out.trans (hb5.mono HB3.out.size))
              clear hb5
              go_wp2_with fail
              refine (ints_same _ _ [] _ (.inl ⟨none, 0, rfl, rfl⟩) (.inl ⟨none, 0, rfl, rfl⟩)).mono ?_
              rintro e w6 ⟨rfl, m, hw6⟩
              have HB6 : Hid (Below w.heap.size w w6) := Lib.hid (by rw [hw6]; exact below_drewN' HB5.out m)
              clear hw6
              go_wp2_with fail
              go_ret
              exact ⟨rfl, HB6.out⟩
            · cases hl
          · obtain ⟨xa, xc, rfl⟩ := hv.shape
            rw [intVals_length] at hv ⊢
            have HB3 := Lib.hid (HB1.out.trans (hb3.mono HB1.out.size))
            have HM3 := Lib.hid (HM1.out.below hb3)
            have HL3 := Lib.hid (HL1.out.below intsC_lasts hb3)
            have HX3 := Lib.hid hv
            clear hb3 hv
            go_wp2_with fail
            refine (rcheck_any va vc LL N _ HL3.out (by omega) 0 HF).mono ?_
            rintro e w4 ⟨rfl, rfl⟩
            go_wp2_with fail
            refine (rcheckClause_any a cap c N _ HM3.out (by omega) true hC').mono ?_
            rintro e w4 ⟨rfl, rfl⟩
            go_wp2_with fail
            refine (rspread_any N va vc LL a cap c _ HL3.out HM3.out hN4 HLL.out HLC.out (by omega) (by omega) _ HEQ).mono ?_
            rintro e w5 (⟨hl, _⟩ | ⟨l, sa, sc, hl, rfl, hs, hb5⟩)
            · cases hl
            · obtain rfl : outTo V N = l := by injection hl
              have HB5 := Lib.hid (HB3.out.trans (hb5.mono HB3.out.size))
              have HX5 := Lib.hid (HX3.out.below hb5)
              have HY5 := Lib.hid hs
              clear hb5 hs hl
              go_wp2_with fail
              refine (ints_same _ _ (outTo V N) _ HX5.out HY5.out).mono ?_
              rintro e w6 ⟨rfl, m, hw6⟩
              have HB6 : Hid (Below w.heap.size w w6) := Lib.hid (by rw [hw6]; exact below_drewN' HB5.out m)
              clear hw6
              go_wp2_with fail
              go_ret
              exact ⟨rfl, HB6.out⟩
        · have HNO := Lib.hid hok
          obtain ⟨v, hv⟩ : ∃ v, chkF n LL = v := ⟨_, rfl⟩
          have HV := Lib.hid hv
          clear hok hv
          go_wp2_with fail
          refine (spread_no n va vc LL a cap c _ HL1.out HM1.out hn.2 HNO).mono ?_
          rintro e w3 ⟨rfl, hb3⟩
          have HB3 := Lib.hid (HB1.out.trans (hb3.mono HB1.out.size))
          have HM3 := Lib.hid (HM1.out.below hb3)
          have HL3 := Lib.hid (HL1.out.below intsC_lasts hb3)
          clear hb3
          go_wp2_with fail
          refine (rcheck_any va vc LL n _ HL3.out hn.2 v HV).mono ?_
          rintro e w4 ⟨rfl, rfl⟩
          by_cases hv0 : v = 0
          · subst hv0
            have hcf := chkF_ok HV.out
            have HC' : Hid (okC (max n 0) c = false) := Lib.hid (by
              rw [show max n 0 = n by omega, ← Bool.not_eq_true]
              exact fun h => HNO.out ⟨HV.out, h⟩)
            have hv8 : chkV false = 8 := rfl
            clear hcf
            go_wp2_with fail
            refine (rcheckClause_any a cap c n _ HM3.out hn.2 false HC').mono ?_
            rintro e w4 ⟨rfl, rfl⟩
            go_wp2_with fail
            go_ret
            exact ⟨rfl, HB3.out⟩
          · have e0 := ine hv0
            clear hv0
            go_wp2_with fail
            go_ret
            exact ⟨rfl, HB3.out⟩
    · have d1 : decide ((40 : Int) < (c.length : Int)) = true := decide_eq_true (by omega)
      have d1' : decide (40 < c.length) = true := decide_eq_true (by omega)
      go_enter Try.func7, Try.ntmps7
      go_wp2_with fail
      refine (resolved_true _).mono ?_
      rintro e w1 ⟨rfl, hb1⟩
      have HB1 := Lib.hid hb1
      clear hb1
      go_wp2_with fail
      refine (resolved_end HB1.out).mono ?_
      rintro e w3 ⟨rfl, hb3⟩
      have HB3 := Lib.hid hb3
      clear hb3
      go_wp2_with fail
      go_ret
      exact ⟨rfl, HB3.out⟩
  · have d0 : decide ((30 : Int) < n) = true := decide_eq_true (by omega)
    go_enter Try.func7, Try.ntmps7
    go_wp2_with fail
    refine (resolved_true _).mono ?_
    rintro e w1 ⟨rfl, hb1⟩
    have HB1 := Lib.hid hb1
    clear hb1
    go_wp2_with fail
    refine (resolved_end HB1.out).mono ?_
    rintro e w3 ⟨rfl, hb3⟩
    have HB3 := Lib.hid hb3
    clear hb3
    go_wp2_with fail
    go_ret
    exact ⟨rfl, HB3.out⟩
theorem cnfSpreads_walk (a0 : Int) (w0 : (Lit.int .i64 a0).wf = true) (a1 : Option Addr) (len1 cap1 : Nat) (z1 : List (List Int)) (a2 : Option Addr) (len2 cap2 : Nat) (z2 : List Int) (w : World) (w1 : RowOf 1 IntsC w (.slice a1 len1 cap1) z1) (w2 : IsRow .i64 w a2 len2 cap2 z2) :
    Calls Try.prog 7 #[.int .i64 a0, .slice a1 len1 cap1, .slice a2 len2 cap2] w fun e w' => e = .returned (.bool true) ∧ Below w.heap.size w w' := by
  obtain ⟨a', cap', he⟩ := w1.shape
  simp only [Value.slice.injEq] at he
  obtain ⟨_, hlen, _⟩ := he
  obtain ⟨m, g1, g2, _⟩ := ints_arg w2
  subst hlen g2
  exact cnfSpreads_list a0 a1 cap1 z1 a2 cap2 m w w1 g1 (int_wf w0)
end Go.Proofs.Yteimfcokobdldaa
