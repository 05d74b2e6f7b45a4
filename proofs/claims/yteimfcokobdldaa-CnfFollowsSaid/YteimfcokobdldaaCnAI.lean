/- CnfFollows. -/
import Derived.Test.YteimfcokobdldaaCnAH
namespace Go.Proofs.Yteimfcokobdldaa
open Go.RowKit
set_option linter.unusedVariables false
theorem infoS : (Try.prog.info? 31).map (fun i => (i.zero, i.size, i.bytes)) = some (some (.slice none 0 0), 1, 24) := by kernel_rfl
def smallB (n : Int) (LL : List (List Int)) : Bool := decide (n ≤ 10) && decide (fewP LL 60 12) && decide (chkF n LL = 0)
theorem small_any (n : Int) (va : Option Addr) (vc : Nat) (LL : List (List Int)) (w : World) (hL : RowOf 1 IntsC w (.slice va LL.length vc) LL) (hn : n ≤ 9223372036854775807) (v : Bool) (hv : Hid (smallB n LL = v)) :
    Calls Try.prog 34 #[.int .i64 n, .slice va LL.length vc] w fun e w' => e = .returned (.bool v) ∧ w = w' := by
  have HL := Lib.hid hL
  have HD : Hid (smallB n LL = (decide (n ≤ 10) && decide (fewP LL 60 12) && decide (chkF n LL = 0))) := Lib.hid rfl
  clear hL
  by_cases h1 : n ≤ 10
  · have d1 : decide (n ≤ 10) = true := decide_eq_true h1
    obtain ⟨u, hu⟩ : ∃ u, decide (fewP LL 60 12) = u := ⟨_, rfl⟩
    have HU := Lib.hid hu
    cases u with
    | false =>
      obtain rfl : v = false := by rw [← hv.out, HD.out, hu, d1]; rfl
      clear hu hv
      go_enter Try.func34, Try.ntmps34
      go_wp2_with fail
      refine (few_any va vc LL 60 12 _ HL.out (by omega) (by omega) false HU).mono ?_
      rintro e w2 ⟨rfl, rfl⟩
      go_wp2_with fail
      go_ret
      exact ⟨rfl, rfl⟩
    | true =>
      obtain ⟨x, hx⟩ : ∃ x, chkF n LL = x := ⟨_, rfl⟩
      have HX := Lib.hid hx
      have HV : Hid ((x == 0) = v) := Lib.hid (by rw [← hv.out, HD.out, hu, d1, hx]; rfl)
      clear hu hv hx
      go_enter Try.func34, Try.ntmps34
      go_wp2_with fail
      refine (few_any va vc LL 60 12 _ HL.out (by omega) (by omega) true HU).mono ?_
      rintro e w2 ⟨rfl, rfl⟩
      go_wp2_with fail
      refine (rcheck_any va vc LL n _ HL.out hn x HX).mono ?_
      rintro e w2 ⟨rfl, rfl⟩
      go_wp2_with fail
      go_ret
      exact ⟨ret_bool HV.out, rfl⟩
  · have d1 : decide (n ≤ 10) = false := decide_eq_false h1
    obtain rfl : v = false := by rw [← hv.out, HD.out, d1]; rfl
    clear hv
    go_enter Try.func34, Try.ntmps34
    go_wp2_with fail
    go_ret
    exact ⟨rfl, rfl⟩
theorem one_lits {x : Int} (h : x ≠ 0 ∧ -1000000 ≤ x ∧ x ≤ 1000000) : Lits [x] := fun y hy => by rw [List.mem_singleton] at hy; rw [hy]; exact h
theorem spreadV_rep {n : Nat} {LL : List (List Int)} {lits V : List Int} (hL : ∀ c ∈ LL, ∀ x ∈ c, x ≠ 0 ∧ x.natAbs ≤ n) (hl : ∀ x ∈ lits, x ≠ 0 ∧ x.natAbs ≤ n) (h : spreadV n LL lits = some V) : ∃ S, Rep n S V := by
  unfold spreadV at h
  rcases lits_rep lits [] _ (rep_start n) hl with ⟨h1, h2⟩ | ⟨V', h1, h2⟩
  · rw [h1] at h; cases h
  · rw [h1] at h
    have hz := zeros_le V'
    rcases loop_rounds LL hL (n + 1) _ V' h2 (by have := h2.len; omega) with ⟨g1, g2⟩ | ⟨S', V2, g1, g2, g3⟩
    · have h' : loopV LL (n + 1 + 2) V' = some V := h
      rw [g1] at h'; cases h'
    · have h' : loopV LL (n + 1 + 2) V' = some V := h
      rw [g1] at h'
      injection h' with h'
      exact ⟨S', h' ▸ g3⟩
theorem outTo_lits {n : Nat} {S V : List Int} (h : Rep n S V) (hn : n ≤ 1000) : Lits (outTo V n) := fun x hx => by
  rw [out_norm h] at hx
  have := h.lit x ((normL_mem S x).1 hx)
  omega
set_option maxRecDepth 100000 in
set_option maxHeartbeats 3200000 in
theorem cnfFollows_list (n : Int) (va : Option Addr) (vc : Nat) (LL : List (List Int)) (a : Option Addr) (cap : Nat) (c : List Int) (w : World) (hL : RowOf 1 IntsC w (.slice va LL.length vc) LL) (h : ValRow w (.slice a c.length cap) (intVals c)) (hn : -9223372036854775808 ≤ n ∧ n ≤ 9223372036854775807) :
    Calls Try.prog 9 #[.int .i64 n, .slice va LL.length vc, .slice a c.length cap] w fun e w' => e = .returned (.bool true) ∧ Below w.heap.size w w' := by
  have hma := h.len
  rw [intVals_length] at hma
  have hml := hL.len
  unfold maxLen at hma hml
  have HM := Lib.hid h
  have HL := Lib.hid hL
  clear h hL
  obtain ⟨u, hu⟩ : ∃ u, smallB n LL = u := ⟨_, rfl⟩
  have HU := Lib.hid hu
  obtain ⟨u2, hu2⟩ : ∃ u, okC (max n 0) c = u := ⟨_, rfl⟩
  have HU2 := Lib.hid hu2
  clear hu hu2
  have hv0 : chkV true = 0 := rfl
  have hv8 : chkV false = 8 := rfl
  by_cases hlc : c.length ≤ 12
  · have d1 : decide ((12 : Int) < (c.length : Int)) = false := decide_eq_false (by omega)
    have d1' : decide (12 < c.length) = false := decide_eq_false (by omega)
    go_enter Try.func9, Try.ntmps9
    go_wp2_with fail
    refine (resolved_true _).mono ?_
    rintro e w1 ⟨rfl, hb1⟩
    have HB1 := Lib.hid hb1
    have HM1 := Lib.hid (HM.out.below hb1)
    have HL1 := Lib.hid (HL.out.below intsC_lasts hb1)
    clear hb1
    go_wp2_with fail
    refine (small_any n va vc LL _ HL1.out hn.2 u HU).mono ?_
    rintro e w2 ⟨rfl, rfl⟩
    cases u with
    | false =>
      go_wp2_with fail
      refine (resolved_end HB1.out).mono ?_
      rintro e w3 ⟨rfl, hb3⟩
      have HB3 := Lib.hid hb3
      clear hb3
      go_wp2_with fail
      go_ret
      exact ⟨rfl, HB3.out⟩
    | true =>
      go_wp2_with fail
      refine (rcheckClause_any a cap c n _ HM1.out hn.2 u2 HU2).mono ?_
      rintro e w2 ⟨rfl, rfl⟩
      cases u2 with
      | false =>
        go_wp2_with fail
        refine (resolved_end HB1.out).mono ?_
        rintro e w3 ⟨rfl, hb3⟩
        have HB3 := Lib.hid hb3
        clear hb3
        go_wp2_with fail
        go_ret
        exact ⟨rfl, HB3.out⟩
      | true =>
        have hsm : n ≤ 10 ∧ fewP LL 60 12 ∧ chkF n LL = 0 := by
          have := HU.out
          unfold smallB at this
          simp only [Bool.and_eq_true, decide_eq_true_eq] at this
          exact ⟨this.1.1, this.1.2, this.2⟩
        obtain ⟨hn10, hfew, hF⟩ := hsm
        have hcf := chkF_ok hF
        obtain ⟨N, rfl⟩ := Int.eq_ofNat_of_zero_le hcf.1
        have hC : okC N c = true := by have := HU2.out; rwa [show max (N : Int) 0 = (N : Int) by omega] at this
        have HF := Lib.hid hF
        have HC := Lib.hid hC
        have HLL := Lib.hid (lits_chkF hF)
        have HLC : Hid (Lits c) := Lib.hid (lits_okC hC (by omega))
        have HRP : Hid (∀ V, spreadV N LL c = some V → Lits (outTo V N)) := Lib.hid (fun V hV => by
          obtain ⟨S, hS⟩ := spreadV_rep (fun d hd => absLits (hcf.2.2.2 d hd)) (absLits hC) hV
          exact outTo_lits hS (by omega))
        have HSND := Lib.hid (fun M => @spreadV_sound M N LL c (fun d hd => absLits (hcf.2.2.2 d hd)) (absLits hC))
        have hN4 : N ≤ 10 := by omega
        have hl1 : LL.length ≤ 60 := hfew.1
        obtain ⟨i0, hi0, hz0, hz1, hz2⟩ := info_parts' infoI
        have HI0 := Lib.hid hi0
        have HZ0 := Lib.hid hz0
        have HZ1 := Lib.hid hz1
        have HZ2 := Lib.hid hz2
        clear hi0 hz0 hz1 hz2
        obtain ⟨is, hi0, hz0, hz1, hz2⟩ := info_parts' infoS
        have HIS := Lib.hid hi0
        have HYS := Lib.hid hz0
        have HY1 := Lib.hid hz1
        have HY2 := Lib.hid hz2
        clear hi0 hz0 hz1 hz2 hF hC hcf hfew
        have hbf := below_lit w1 (.cells #[.int .i64 N, .slice va LL.length vc] 26)
        have HVF := Lib.hid (varAt_new w1 #[.int .i64 N, .slice va LL.length vc] 26 _ rfl)
        have HBF := Lib.hid hbf
        have HLF := Lib.hid (HL1.out.below intsC_lasts hbf)
        obtain ⟨wf, hwf⟩ : ∃ wf, w1.alloc (.cells #[.int .i64 N, .slice va LL.length vc] 26) = wf := ⟨_, rfl⟩
        have hszf : wf.heap.size = w1.heap.size + 1 := by rw [← hwf]; simp
        have HOL := Lib.hid (OwnV.lit wf #[] 31 0 rfl (Nat.zero_le _))
        obtain ⟨vals, hvl, hvr, hv1, hve⟩ := rowVals (HLF.out)
        rw [hwf] at HVF HBF hvr hve
        have HVR := Lib.hid (hvr.below (below_lit wf (.cells #[] 31)))
        have HVE := Lib.hid hve
        have HONE := Lib.hid hv1
        have HVL := Lib.hid hvl
        clear hbf hvr hve hv1 HLF
        go_upto_region 4 with (fail)
        have HSZF := Lib.hid hszf
        clear hwf hszf
        go_wp2_with (at_builtin; refine wpList_app _ rfl _ _ 22 rfl wf.heap.size 31 is (.slice none 0 0) 24 Try.underlying22 HIS.out HYS.out HY1.out HY2.out rfl _ 0 [] rfl HOL.out.own _ vals rfl HVR.out HONE.out (by rw [HVL.out]; unfold maxLen; simp; omega) (by rw [HVL.out]; simp; omega) (by simp) ?_)
        intro v2 w2 ha2
        have HAL : Hid (OwnV wf.heap.size 31 wf w2 v2 vals) := Lib.hid (HOL.out.app (Below.refl _ _) ha2)
        have HT0 : Hid (Two wf.heap.size 31 3 wf w2 v2 vals (.slice none 0 0) [] (ElsOf vals LL)) := Lib.hid ⟨HAL.out, ⟨HAL.out.bsz, HAL.out.be, rfl, .inl ⟨rfl, rfl⟩⟩, fun b e g => by simp [Value.ownBlock] at g, fun w' h' i hi hi' => by
          refine (HVE.out i hi hi').below (HAL.out.be.trans (h'.below HAL.out.bsz (fun b e => ?_)))
          rcases e with e | e
          · exact (row_block HAL.out.own e).1
          · simp [Value.ownBlock] at e⟩
        obtain ⟨a2, n2, c2, rfl⟩ := ha2.shape
        clear ha2 HOL HAL
        go_wp2_with fail
        go_loopw [8, 9, 10] (fun v u i wr => ∃ (k : Nat) (vs : List Value), i = .int .i64 k ∧ k ≤ c.length ∧ vs.length = LL.length + k ∧ Two wf.heap.size 31 3 wf wr v vs u (intVals (negs (c.take k))) (ElsOf vs (allC LL (c.take k)))) (fun _ _ i _ => c.length - (intOf i).toNat)
        case atStart => exact ⟨0, vals, rfl, Nat.zero_le _, by rw [HVL.out]; rfl, by simpa [negs, intVals, allC] using HT0.out⟩
        case round =>
          obtain ⟨k, vs, rfl, hk, hvs, hT⟩ := hrel
          have HT := Lib.hid hT
          have HVS := Lib.hid hvs
          have HBE : Hid (Below w1.heap.size w1 wr) := Lib.hid (HBF.out.trans (hT.one.be.mono (by rw [HSZF.out]; omega)))
          clear hT HT0 hvs
          have k0 : (0 : Int) ≤ (k : Int) := by omega
          obtain ⟨sa, sc, rfl⟩ := HT.out.one.row.shape
          obtain ⟨ta, tc, rfl⟩ := HT.out.two.row.shape
          have hbz := HT.out.one.bsz
          by_cases hlt : k < c.length
          · have k1 : (k : Int) < (c.length : Int) := by omega
            have hdk : decide (k < c.length) = true := decide_eq_true hlt
            obtain ⟨b, off, rfl, hbl, hc⟩ := int_at (HM1.out.below HBE.out) k hlt
            have e : c.getD k 0 = c[k] := by simp [hlt]
            have HTK := Lib.hid (List.take_succ_eq_append_getElem hlt)
            have HXB := Lib.hid (HLC.out c[k] (List.getElem_mem hlt))
            rw [← e] at HTK HXB
            clear e
            obtain ⟨x, hxx⟩ : ∃ x, c.getD k 0 = x := ⟨_, rfl⟩
            rw [hxx] at hc HTK HXB
            have HXE := Lib.hid hxx
            clear hxx
            have hx1 := HXB.out.2.1
            have hx2 := HXB.out.2.2
            have HNX : Hid (allC LL (c.take (k + 1)) = allC LL (c.take k) ++ [[x]]) := Lib.hid (by rw [HTK.out, allC_snoc])
            have HNG : Hid (negs (c.take (k + 1)) = negs (c.take k) ++ [-x]) := Lib.hid (by rw [HTK.out, negs_snoc])
            have hln : (negs (c.take k)).length ≤ c.length := by rw [negs_len, List.length_take]; omega
            have hba : Below wr.heap.size wr ((wr.alloc (.cells #[.int .i64 x] 3)).alloc (.cells #[.slice (some ⟨wr.heap.size, 0, none⟩) 1 1] 31)) := (below_lit _ _).alloc (by simp) _
            have HBA := Lib.hid hba
            have HFR : Hid (ValRow ((wr.alloc (.cells #[.int .i64 x] 3)).alloc (.cells #[.slice (some ⟨wr.heap.size, 0, none⟩) 1 1] 31)) (.slice (some ⟨wr.heap.size, 0, none⟩) 1 1) (intVals [x])) := Lib.hid ((fresh_row wr (.int .i64 x) 3 _ rfl).below (below_lit _ _))
            clear hba
            go_wp2_with (at_builtin; refine wpList_app _ rfl _ _ 22 rfl wf.heap.size 31 is (.slice none 0 0) 24 Try.underlying22 HIS.out HYS.out HY1.out HY2.out rfl _ _ _ rfl (ownsRow_below HT.out.one.own HBA.out) (.slice (some ⟨wr.heap.size + 1, 0, none⟩) 1 1) [.slice (some ⟨wr.heap.size, 0, none⟩) 1 1] rfl (fresh_row (wr.alloc (.cells #[.int .i64 x] 3)) _ _ _ (by simp)) (by simp [Value.oneCell']) (by rw [HVS.out]; unfold maxLen; simp; omega) (by rw [HVS.out]; simp; omega) (by simp; omega) ?_)
            intro v3 w3 ha3
            have HT3 : Hid (Two wf.heap.size 31 3 wf w3 v3 (vs ++ [.slice (some ⟨wr.heap.size, 0, none⟩) 1 1]) (.slice ta (intVals (negs (c.take k))).length tc) (intVals (negs (c.take k))) (ElsOf (vs ++ [.slice (some ⟨wr.heap.size, 0, none⟩) 1 1]) (allC LL (c.take (k + 1))))) := Lib.hid (HT.out.app1 HBA.out ha3 (fun w2 h2 he => by
              rw [HNX.out]
              refine he.snoc (by rw [HVS.out]; simp [allC]; omega) (HFR.out.near h2 (fun e => ?_))
              rcases e with e | e
              · have := (row_block HT.out.one.own e).2; omega
              · have := (row_block HT.out.two.own e).2; omega))
            obtain ⟨a3, n3, c3, rfl⟩ := ha3.shape
            have hbe3 : Below wf.heap.size wf w3 := HT3.out.one.be
            have hc3 : w3.cell? ⟨b, off + k, none⟩ = some (.int .i64 x) := by
              have hm := HM1.out.below (HBF.out.trans (hbe3.mono (by rw [HSZF.out]; omega)))
              obtain ⟨b', off', e1, _, hc'⟩ := int_at hm k hlt
              simp only [Option.some.injEq, Addr.mk.injEq] at e1
              obtain ⟨rfl, rfl, _⟩ := e1
              rw [hc', HXE.out]
            clear ha3
            have hbz3 := HT3.out.two.bsz
            go_wp2_with (at_builtin; refine wpList_app _ rfl _ _ 31 rfl wf.heap.size 3 i0 (.int .i64 0) 8 Try.underlying31 HI0.out HZ0.out HZ1.out HZ2.out rfl _ _ _ rfl (HT3.out.two.own.alloc _) (.slice (some ⟨w3.heap.size, 0, none⟩) 1 1) (intVals [-x]) rfl (fresh_row _ _ _ _ rfl) (intVals_one _) (by rw [intVals_length, intVals_length]; unfold maxLen; simp; omega) (by rw [intVals_length, intVals_length]; simp; omega) (by simp; omega) ?_)
            intro v4 w4 ha4
            have HT4 := Lib.hid (HT3.out.app2 (below_lit _ _) ha4)
            obtain ⟨a4, n4, c4, rfl⟩ := ha4.shape
            clear ha4 hc3
            go_wp2_with fail
            go_roundw
            case rel => exact ⟨k + 1, vs ++ [.slice (some ⟨wr.heap.size, 0, none⟩) 1 1], by go_num, by omega, by rw [List.length_append, HVS.out]; rfl, by rw [HNG.out, intVals_app]; exact HT4.out⟩
            case measure => simp [intOf]; omega
          · have hdk : decide (k < c.length) = false := decide_eq_false hlt
            have hke : c.take k = c := List.take_of_length_le (by omega)
            have HTE : Hid (Two wf.heap.size 31 3 wf wr (.slice sa vs.length sc) vs (.slice ta (intVals (negs (c.take k))).length tc) (intVals (negs c)) (ElsOf vs (allC LL c))) := Lib.hid (by have := HT.out; rw [hke] at this ⊢; exact this)
            have hle : vs.length = (allC LL c).length := by rw [HVS.out]; simp [allC]; omega
            have HROW : Hid (RowOf 1 IntsC wr (.slice sa (allC LL c).length sc) (allC LL c)) := Lib.hid (by
              have := HTE.out.one
              rw [hle] at this
              refine this.rowOf hle (HTE.out.el wr (Near.refl _ _)) (fun d hd y hy => ?_)
              rcases List.mem_append.1 hd with hd | hd
              · have := HLL.out d hd y hy; omega
              · obtain ⟨z, hz, rfl⟩ := List.mem_map.1 hd
                rw [List.mem_singleton] at hy
                have := HLC.out z hz; omega)
            have HALL : Hid (∀ d ∈ allC LL c, Lits d) := Lib.hid (fun d hd => by
              rcases List.mem_append.1 hd with hd | hd
              · exact HLL.out d hd
              · obtain ⟨z, hz, rfl⟩ := List.mem_map.1 hd
                exact one_lits (HLC.out z hz))
            have hnr := HTE.out.two.row
            rw [hle]
            rw [hke, intVals_length] at hnr ⊢
            have HNR := Lib.hid hnr
            have HB4 : Hid (Below w.heap.size w wr) := Lib.hid (HB1.out.trans (HBE.out.mono HB1.out.size))
            have HM4 := Lib.hid (HM1.out.below HBE.out)
            have HL4 := Lib.hid (HL1.out.below intsC_lasts HBE.out)
            have HV4 := Lib.hid (HVF.out.below HT.out.one.be (by rw [HSZF.out]; omega))
            have f0 := HV4.out.get 0 rfl
            have f1 := HV4.out.get 1 rfl
            have HLT := Lib.hid hlt
            obtain ⟨res, hres⟩ : ∃ r, spreadV N LL c = r := ⟨_, rfl⟩
            have HRES := Lib.hid hres
            obtain ⟨al, hal⟩ : ∃ al, (allC LL c).length = al := ⟨_, rfl⟩
            have HAL := Lib.hid hal
            clear hlt hke hle hnr hres hal
            go_wp2_with fail
            refine (spread_any N va vc LL a cap c _ HL4.out HM4.out HF HC res HRES).mono ?_
            have HNC : Hid (okC N (negs c) = true) := Lib.hid (negs_okC HC.out)
            have HPL : ∀ u, Hid (res.isNone = u) → Hid ((spreadV N LL (negs (negs c))).isNone = u) := fun u hu => Lib.hid (by rw [negs_negs, HRES.out]; exact hu.out)
            have HNLN : Hid ((negs c).length ≤ 1000000) := Lib.hid (by rw [negs_len]; omega)
            rintro e w5 (⟨rfl, rfl, hb5⟩ | ⟨V, v, rfl, rfl, hv, hb5⟩)
            · have HB5 := Lib.hid (HB4.out.trans (hb5.mono HB4.out.size))
              have HL5 := Lib.hid (HL4.out.below intsC_lasts hb5)
              have HN5 := Lib.hid (HNR.out.below hb5)
              have HA5 := Lib.hid (HROW.out.below intsC_lasts hb5)
              have HV5 := Lib.hid (HV4.out.after hb5)
              have g0 := HV5.out.get 0 rfl
              have g1 := HV5.out.get 1 rfl
              have HNO : Hid (∀ M : List Bool, holdsB (allC LL c) M = true → False) := Lib.hid (fun M hM => by
                obtain ⟨h1, h2⟩ := holdsB_all hM
                obtain ⟨V, hV, _⟩ := HSND.out M h1 h2
                rw [HRES.out] at hV; cases hV)
              have HNG2 : Hid (∀ M : List Bool, holdsB LL M = true → (negs c).any (trueB M) = true) := Lib.hid (fun M hM => by
                apply Classical.byContradiction
                intro hno
                have hall : ∀ x ∈ c, trueB M x = true := fun x hx => by
                  apply Classical.byContradiction
                  intro hf
                  have hf' : trueB M x = false := by simpa using hf
                  exact hno (List.any_eq_true.2 ⟨-x, List.mem_map.2 ⟨x, hx, rfl⟩, trueB_pos M x (HLC.out x hx).1 hf'⟩)
                obtain ⟨V, hV, _⟩ := HSND.out M hM hall
                rw [HRES.out] at hV; cases hV)
              clear hb5 f0 f1
              go_wp2_with fail
              refine (plain_any N va vc LL ta tc (negs c) _ HL5.out HN5.out HF HNC HNLN.out true (HPL true (Lib.hid rfl))).mono ?_
              rintro e w6 ⟨rfl, hb6⟩
              have HB6 := Lib.hid (HB5.out.trans (hb6.mono HB5.out.size))
              have HL6 := Lib.hid (HL5.out.below intsC_lasts hb6)
              have HN6 := Lib.hid (HN5.out.below hb6)
              have HA6 := Lib.hid (HA5.out.below intsC_lasts hb6)
              clear hb6 g0 g1
              go_wp2_with fail
              refine (follows_yes N sa sc (allC LL c) none 0 [] _ HA6.out (.inl ⟨_, _, rfl, rfl⟩) (by omega) HALL.out (fun x hx => by simp at hx) (Lib.hid (fun M hM => (HNO.out M hM).elim))).mono ?_
              rintro e w7 ⟨rfl, hb7⟩
              have HB7 := Lib.hid (HB6.out.trans (hb7.mono HB6.out.size))
              have HL7 := Lib.hid (HL6.out.below intsC_lasts hb7)
              have HN7 := Lib.hid (HN6.out.below hb7)
              clear hb7
              go_wp2_with fail
              refine (follows_yes N va vc LL ta tc (negs c) _ HL7.out HN7.out (by omega) HLL.out (lits_okC HNC.out (by omega)) HNG2).mono ?_
              rintro e w8 ⟨rfl, hb8⟩
              have HB8 := Lib.hid (HB7.out.trans (hb8.mono HB7.out.size))
              clear hb8
              go_wp2_with fail
              go_ret
              exact ⟨rfl, HB8.out⟩
            · obtain ⟨xa, xc, rfl⟩ := hv.shape
              rw [intVals_length] at hv ⊢
              have HX5 := Lib.hid hv
              have hxl := hv.len
              rw [intVals_length] at hxl
              unfold maxLen at hxl
              have HB5 := Lib.hid (HB4.out.trans (hb5.mono HB4.out.size))
              have HL5 := Lib.hid (HL4.out.below intsC_lasts hb5)
              have HN5 := Lib.hid (HNR.out.below hb5)
              have HA5 := Lib.hid (HROW.out.below intsC_lasts hb5)
              have HV5 := Lib.hid (HV4.out.after hb5)
              have g0 := HV5.out.get 0 rfl
              have g1 := HV5.out.get 1 rfl
              have HYES : Hid (∀ M : List Bool, holdsB (allC LL c) M = true → ∀ x ∈ outTo V N, trueB M x = true) := Lib.hid (fun M hM => by
                obtain ⟨h1, h2⟩ := holdsB_all hM
                obtain ⟨V', hV, h3⟩ := HSND.out M h1 h2
                rw [HRES.out] at hV
                injection hV with hV
                subst hV
                exact h3)
              have HXL := Lib.hid (HRP.out V HRES.out)
              clear hb5 f0 f1 hv
              obtain ⟨X, hX⟩ : ∃ X, outTo V N = X := ⟨_, rfl⟩
              rw [hX] at HX5 hxl HYES HXL ⊢
              clear hX
              go_wp2_with fail
              refine (plain_any N va vc LL ta tc (negs c) _ HL5.out HN5.out HF HNC HNLN.out false (HPL false (Lib.hid rfl))).mono ?_
              rintro e w6 ⟨rfl, hb6⟩
              have HB6 := Lib.hid (HB5.out.trans (hb6.mono HB5.out.size))
              have HX6 := Lib.hid (HX5.out.below hb6)
              have HA6 := Lib.hid (HA5.out.below intsC_lasts hb6)
              clear hb6 g0 g1
              go_wp2_with fail
              go_loopw [13] (fun i wq => ∃ q : Nat, i = .int .i64 q ∧ q ≤ X.length ∧ Below w6.heap.size w6 wq) (fun i _ => X.length - (intOf i).toNat)
              case atStart => exact ⟨0, rfl, Nat.zero_le _, Below.refl _ _⟩
              case round =>
                obtain ⟨q, rfl, hq, hbq⟩ := hrel
                have HBQ := Lib.hid hbq
                clear hbq
                have q0 : (0 : Int) ≤ (q : Int) := by omega
                by_cases hqt : q < X.length
                · have q1 : (q : Int) < (X.length : Int) := by omega
                  have hdq : decide (q < X.length) = true := decide_eq_true hqt
                  obtain ⟨b, off, rfl, _, hc⟩ := int_at (HX6.out.below HBQ.out) q hqt
                  have e : X.getD q 0 = X[q] := by simp [hqt]
                  have HMX := Lib.hid (List.getElem_mem hqt)
                  rw [← e] at HMX
                  clear e
                  obtain ⟨x, hxx⟩ : ∃ x, X.getD q 0 = x := ⟨_, rfl⟩
                  rw [hxx] at hc HMX
                  clear hxx
                  go_wp2_with fail
                  have hbl := below_lit wr (.cells #[.int .i64 x] 3)
                  refine (follows_yes N sa sc (allC LL c) _ 1 [x] _ (HA6.out.below intsC_lasts (HBQ.out.trans (hbl.mono HBQ.out.size))) (fresh_row wr (.int .i64 x) 3 _ rfl) (by omega) HALL.out (one_lits (HXL.out x HMX.out)) (Lib.hid (fun M hM => by
                    have := HYES.out M hM x HMX.out
                    simpa using this))).mono ?_
                  rintro e w8 ⟨rfl, hb8⟩
                  have HB8 := Lib.hid (HBQ.out.trans ((hbl.trans (hb8.mono hbl.size)).mono HBQ.out.size))
                  clear hb8 hbl
                  go_wp2_with fail
                  go_roundw
                  case rel => exact ⟨q + 1, by go_num, by omega, HB8.out⟩
                  case measure => simp [intOf]; omega
                · have hdq : decide (q < X.length) = false := decide_eq_false hqt
                  have HQT := Lib.hid hqt
                  have HB9 := Lib.hid (HB6.out.trans (HBQ.out.mono HB6.out.size))
                  clear hqt
                  go_wp2_with fail
                  go_ret
                  exact ⟨rfl, HB9.out⟩
  · have d1 : decide ((12 : Int) < (c.length : Int)) = true := decide_eq_true (by omega)
    have d1' : decide (12 < c.length) = true := decide_eq_true (by omega)
    go_enter Try.func9, Try.ntmps9
    go_wp2_with fail
    refine (resolved_true _).mono ?_
    rintro e w1 ⟨rfl, hb1⟩
    have HB1 := Lib.hid hb1
    clear hb1
    go_wp2_with fail
    refine (resolved_end HB1.out).mono ?_
    rintro e w3 ⟨rfl, hb3⟩
    have HB3 := Lib.hid hb3
    clear hb3
    go_wp2_with fail
    go_ret
    exact ⟨rfl, HB3.out⟩
theorem cnfFollows_walk (a0 : Int) (w0 : (Lit.int .i64 a0).wf = true) (a1 : Option Addr) (len1 cap1 : Nat) (z1 : List (List Int)) (a2 : Option Addr) (len2 cap2 : Nat) (z2 : List Int) (w : World) (w1 : RowOf 1 IntsC w (.slice a1 len1 cap1) z1) (w2 : IsRow .i64 w a2 len2 cap2 z2) :
    Calls Try.prog 9 #[.int .i64 a0, .slice a1 len1 cap1, .slice a2 len2 cap2] w fun e w' => e = .returned (.bool true) ∧ Below w.heap.size w w' := by
  obtain ⟨a', cap', he⟩ := w1.shape
  simp only [Value.slice.injEq] at he
  obtain ⟨_, hlen, _⟩ := he
  obtain ⟨m, g1, g2, _⟩ := ints_arg w2
  subst hlen g2
  exact cnfFollows_list a0 a1 cap1 z1 a2 cap2 m w w1 g1 (int_wf w0)
end Go.Proofs.Yteimfcokobdldaa
