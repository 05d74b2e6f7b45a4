/- The walk of the reference's Spread. -/
import Derived.Test.YteimfcokobdldaaCnX
namespace Go.Proofs.Yteimfcokobdldaa
open Go.RowKit
set_option linter.unusedVariables false
theorem roundC_at (LL : List (List Int)) (S : List Int) (k : Nat) (h : k < LL.length) : roundC (LL.drop k) S = match stepC S (LL.getD k []) with
    | none => none
    | some S' => roundC (LL.drop (k + 1)) S' := by
  have e : LL.getD k [] = LL[k] := by simp [h]
  rw [List.drop_eq_getElem_cons h, e]; rfl
theorem roundC_end (LL : List (List Int)) (S : List Int) : roundC (LL.drop LL.length) S = some S := by rw [List.drop_length]; rfl
def RSPost (w : World) (res : Option (List Int)) (e : Ending) (w' : World) : Prop :=
  (res = none ∧ e = .returned (.tuple #[.slice none 0 0, .bool true]) ∧ Below w.heap.size w w') ∨
  ∃ l a cap, res = some l ∧ e = .returned (.tuple #[.slice a l.length cap, .bool false]) ∧ ValRow w' (.slice a l.length cap) (intVals l) ∧ Below w.heap.size w w'
theorem rspread_none {n : Nat} {LL : List (List Int)} {lits : List Int} {res : Option (List Int)} (h : rspreadV n LL lits = res) (ht : tautB lits = true) : res = none := by
  unfold rspreadV at h; rw [if_pos ht] at h; exact h.symm
theorem rspread_some {n : Nat} {LL : List (List Int)} {lits : List Int} {res : Option (List Int)} (h : rspreadV n LL lits = res) (ht : tautB lits = false) : (roundsC LL (n + 1) lits).map normL = res := by
  unfold rspreadV at h; rw [if_neg (by rw [ht]; simp)] at h; exact h
theorem rounds_at {LL : List (List Int)} {g : Nat} {S : List Int} {RR : Option (List Int)} (h : roundsC LL (g + 1) S = RR) : (roundC LL S = none → RR = none) ∧ (∀ S', roundC LL S = some S' → roundsC LL g S' = RR) := by
  unfold roundsC at h
  refine ⟨fun h1 => ?_, fun S' h1 => ?_⟩
  · rw [h1] at h; exact h.symm
  · rw [h1] at h; exact h
/-- what is true so far, in memory -/
structure SetAt (w : World) (v : Value) (S : List Int) (wr : World) : Prop where
  own : OwnV w.heap.size 3 w wr v (intVals S)
  small : ∀ x ∈ S, -1000000 ≤ x ∧ x ≤ 1000000
set_option maxRecDepth 100000 in
set_option maxHeartbeats 3200000 in
theorem rspread_any (n : Nat) (va : Option Addr) (vc : Nat) (LL : List (List Int)) (a : Option Addr) (cap : Nat) (lits : List Int) (w : World) (hL : RowOf 1 IntsC w (.slice va LL.length vc) LL) (h : ValRow w (.slice a lits.length cap) (intVals lits))
    (hn : n ≤ 400) (hLL : ∀ c ∈ LL, Lits c) (hlit : Lits lits) (hl1 : LL.length ≤ 1000) (hl2 : lits.length ≤ 1000) (res : Option (List Int)) (hres : Hid (rspreadV n LL lits = res)) :
    Calls Try.prog 31 #[.int .i64 n, .slice va LL.length vc, .slice a lits.length cap] w (RSPost w res) := by
  have HL := Lib.hid hL
  have H := Lib.hid h
  have HLL := Lib.hid hLL
  have HLIT := Lib.hid hlit
  clear hL h hLL hlit
  obtain ⟨i0, hi0, hz0, hz1, hz2⟩ := info_parts' infoI
  have HI0 := Lib.hid hi0
  have HZ0 := Lib.hid hz0
  have HZ1 := Lib.hid hz1
  have HZ2 := Lib.hid hz2
  clear hi0 hz0 hz1 hz2
  have HOL := Lib.hid (OwnV.lit w #[] 3 0 rfl (Nat.zero_le _))
  have HR0 := Lib.hid (H.out.below ((Below.refl _ _).alloc (Nat.le_refl _) (.cells #[] 3)))
  go_enter Try.func31, Try.ntmps31
  go_wp2_with (at_builtin; refine wpList_app _ rfl _ _ 31 rfl w.heap.size 3 i0 (.int .i64 0) 8 Try.underlying31 HI0.out HZ0.out HZ1.out HZ2.out rfl _ 0 [] rfl HOL.out.own (.slice a lits.length cap) (intVals lits) rfl HR0.out (intVals_one _) (by rw [intVals_length]; unfold maxLen; omega) (by rw [intVals_length]; omega) (by simp) ?_)
  intro v1 w1 ha1
  have HS0 : Hid (SetAt w v1 lits w1) := Lib.hid ⟨HOL.out.app (Below.refl _ _) ha1, fun x hx => (HLIT.out x hx).2⟩
  have hrow := HS0.out.own.row
  obtain ⟨sa, sc, rfl⟩ := hrow.shape
  rw [intVals_length] at hrow HS0
  rw [intVals_length]
  have HROW := Lib.hid hrow
  obtain ⟨u, hu⟩ : ∃ u, tautB lits = u := ⟨_, rfl⟩
  have HU := Lib.hid hu
  clear ha1 hrow hu HOL HR0
  go_wp2_with fail
  refine (rtaut_any sa sc lits _ HROW.out HLIT.out u HU).mono ?_
  rintro e w2 ⟨rfl, rfl⟩
  cases u with
  | true =>
    have HR := Lib.hid (rspread_none hres.out HU.out)
    go_wp2_with fail
    go_ret2
    exact .inl ⟨HR.out, rfl, HS0.out.own.be⟩
  | false =>
    have HR0 := Lib.hid (rspread_some hres.out HU.out)
    obtain ⟨RR, hRR⟩ : ∃ R, roundsC LL (n + 1) lits = R := ⟨_, rfl⟩
    rw [hRR] at HR0
    have HRR := Lib.hid hRR
    clear hRR
    go_wp2_with fail
    go_loopw [8, 9] (fun v i wr => ∃ (r : Nat) (S : List Int), i = .int .i64 r ∧ r ≤ n + 1 ∧ SetAt w v S wr ∧ S.length ≤ 1000 + r * 1000 ∧ roundsC LL (n + 1 - r) S = RR) (fun _ i _ => n + 1 - (intOf i).toNat)
    case atStart => exact ⟨0, lits, rfl, Nat.zero_le _, HS0.out, by omega, HRR.out⟩
    case round =>
      obtain ⟨r, S, rfl, hr, hS, hsl, hrr⟩ := hrel
      have HS := Lib.hid hS
      have HRS := Lib.hid hrr
      clear hS hrr HRR HS0 HROW
      have r0 : (0 : Int) ≤ (r : Int) := by omega
      by_cases hrn : r ≤ n
      · have hdr : decide ((r : Int) ≤ (n : Int)) = true := decide_eq_true (by omega)
        have hdr' : decide (r ≤ n) = true := decide_eq_true hrn
        have HAT : Hid ((roundC LL S = none → RR = none) ∧ (∀ S', roundC LL S = some S' → roundsC LL (n - r) S' = RR)) := Lib.hid (rounds_at (by rw [show n - r + 1 = n + 1 - r by omega]; exact HRS.out))
        obtain ⟨RD, hRD⟩ : ∃ R, roundC LL S = R := ⟨_, rfl⟩
        rw [hRD] at HAT
        have HRD := Lib.hid hRD
        clear hRD
        go_wp2_with fail
        go_loopw [8, 10] (fun v i wr => ∃ (k : Nat) (S1 : List Int), i = .int .i64 k ∧ k ≤ LL.length ∧ SetAt w v S1 wr ∧ S1.length ≤ 1000 + r * 1000 + k ∧ roundC (LL.drop k) S1 = RD) (fun _ i _ => LL.length - (intOf i).toNat)
        case atStart => exact ⟨0, S, rfl, Nat.zero_le _, HS.out, hsl, HRD.out⟩
        case round =>
          obtain ⟨k, S1, rfl, hk, hS1, hsl1, hrd⟩ := hrel
          have HS1 := Lib.hid hS1
          have HRD1 := Lib.hid hrd
          clear hS1 hrd HRD HS
          have k0 : (0 : Int) ≤ (k : Int) := by omega
          have hrow := HS1.out.own.row
          obtain ⟨ta, tc, rfl⟩ := hrow.shape
          rw [intVals_length] at hrow HS1
          rw [intVals_length]
          have HROW := Lib.hid hrow
          clear hrow
          by_cases hlt : k < LL.length
          · have k1 : (k : Int) < (LL.length : Int) := by omega
            have hdk : decide (k < LL.length) = true := decide_eq_true hlt
            obtain ⟨b, off, ca, cc, rfl, _, hc, hrw, _⟩ := ints_row (HL.out.below intsC_lasts HS1.out.own.be) k hlt
            have HAT1 := Lib.hid (roundC_at LL S1 k hlt)
            rw [HRD1.out] at HAT1
            have e : LL.getD k [] = LL[k] := by simp [hlt]
            have HLC := Lib.hid (HLL.out LL[k] (List.getElem_mem hlt))
            rw [← e] at HLC
            clear e
            obtain ⟨c, hcc⟩ : ∃ c, LL.getD k [] = c := ⟨_, rfl⟩
            rw [hcc] at hc hrw HAT1 HLC
            have hcl := hrw.len
            rw [intVals_length] at hcl
            unfold maxLen at hcl
            have HRW := Lib.hid hrw
            clear hcc hrw
            have HST : Hid (stepC S1 c = if (scanC S1 c 0 false 0).2.1 = false ∧ (scanC S1 c 0 false 0).2.2 = 0 then none else if (scanC S1 c 0 false 0).2.1 = false ∧ (scanC S1 c 0 false 0).2.2 = 1 then some (S1 ++ [(scanC S1 c 0 false 0).1]) else some S1) := Lib.hid rfl
            obtain ⟨R, hR⟩ : ∃ R, scanC S1 c 0 false 0 = R := ⟨_, rfl⟩
            rw [hR] at HST
            have HSC := Lib.hid hR
            clear hR
            go_wp2_with fail
            go_loop [11, 12, 13, 14] (fun o s m q => ∃ (oi : Int) (sb : Bool) (mn qn : Nat), o = .int .i64 oi ∧ s = .bool sb ∧ m = .int .i64 mn ∧ q = .int .i64 qn ∧ qn ≤ c.length ∧ mn ≤ qn ∧ (-1000000 ≤ oi ∧ oi ≤ 1000000) ∧ scanC S1 (c.drop qn) oi sb mn = R) (fun _ _ _ q => c.length - (intOf q).toNat)
            case atStart => exact ⟨0, false, 0, 0, rfl, rfl, rfl, rfl, Nat.zero_le _, Nat.le_refl _, by omega, HSC.out⟩
            case round =>
              obtain ⟨oi, sb, mn, qn, rfl, rfl, rfl, rfl, hq, hmq, hoi, hsc⟩ := hrel
              have HQ := Lib.hid hsc
              clear hsc HSC
              have q0 : (0 : Int) ≤ (qn : Int) := by omega
              by_cases hqt : qn < c.length
              · have q1 : (qn : Int) < (c.length : Int) := by omega
                have hdq : decide (qn < c.length) = true := decide_eq_true hqt
                obtain ⟨b2, off2, rfl, _, hx⟩ := int_at HRW.out qn hqt
                have HAT2 := Lib.hid (scanC_at S1 c qn oi sb mn hqt)
                rw [HQ.out] at HAT2
                have e : c.getD qn 0 = c[qn] := by simp [hqt]
                have HXB := Lib.hid (HLC.out c[qn] (List.getElem_mem hqt))
                rw [← e] at HXB
                clear e
                obtain ⟨x, hxx⟩ : ∃ x, c.getD qn 0 = x := ⟨_, rfl⟩
                rw [hxx] at hx HAT2 HXB
                clear hxx
                have hxr1 := HXB.out.2.1
                have hxr2 := HXB.out.2.2
                obtain ⟨u1, hu1⟩ : ∃ u, hasB S1 x = u := ⟨_, rfl⟩
                obtain ⟨u2, hu2⟩ : ∃ u, hasB S1 (-x) = u := ⟨_, rfl⟩
                have HU1 := Lib.hid hu1
                have HU2 := Lib.hid hu2
                rw [hu1, hu2] at HAT2
                have HH1 := fun W hW => Lib.hid (has_any ta tc S1 x W hW u1 HU1)
                have HH2 := fun W hW => Lib.hid (has_any ta tc S1 (-x) W hW u2 HU2)
                clear hu1 hu2
                have hm1 : (mn : Int) + 1 ≤ 9223372036854775807 := by omega
                obtain ⟨s1, hs1⟩ : ∃ s, (sb || u1) = s := ⟨_, rfl⟩
                rw [hs1] at HAT2
                have HS1B := Lib.hid hs1
                clear hs1
                go_upto_region 16 with (fail)
                go_cut [12] (fun s wx => s = .bool s1 ∧ wr = wx)
                case first =>
                  cases sb with
                  | true =>
                    go_wp2_with fail
                    go_meet
                    exact ⟨by rw [← HS1B.out]; rfl, rfl⟩
                  | false =>
                    go_wp2_with fail
                    refine (HH1 _ HROW.out).out.mono ?_
                    rintro e w1 ⟨rfl, rfl⟩
                    go_wp2_with fail
                    go_meet
                    exact ⟨by rw [← HS1B.out]; rfl, rfl⟩
                case rest =>
                  obtain ⟨rfl, rfl⟩ := hcut
                  cases u2 with
                  | true =>
                    have HNX : Hid (scanC S1 (c.drop (qn + 1)) oi s1 mn = R) := Lib.hid (by have := HAT2.out; rw [if_neg (fun g => by simp at g)] at this; exact this.symm)
                    go_wp2_with fail
                    refine (HH2 _ HROW.out).out.mono ?_
                    rintro e w1 ⟨rfl, rfl⟩
                    go_wp2_with fail
                    go_round
                    case rel => exact ⟨oi, s1, mn, qn + 1, rfl, rfl, rfl, by go_num, by omega, by omega, hoi, HNX.out⟩
                    case measure => simp [intOf]; omega
                  | false =>
                    by_cases hxo : x = oi
                    · have e0 := inf hxo
                      have HNX : Hid (scanC S1 (c.drop (qn + 1)) oi s1 mn = R) := Lib.hid (by have := HAT2.out; rw [if_neg (fun g => g.2 hxo)] at this; exact this.symm)
                      clear hxo
                      go_wp2_with fail
                      refine (HH2 _ HROW.out).out.mono ?_
                      rintro e w1 ⟨rfl, rfl⟩
                      go_wp2_with fail
                      go_round
                      case rel => exact ⟨oi, s1, mn, qn + 1, rfl, rfl, rfl, by go_num, by omega, by omega, hoi, HNX.out⟩
                      case measure => simp [intOf]; omega
                    · have e0 := ine hxo
                      have HNX : Hid (scanC S1 (c.drop (qn + 1)) x s1 (mn + 1) = R) := Lib.hid (by have := HAT2.out; rw [if_pos ⟨rfl, hxo⟩] at this; exact this.symm)
                      clear hxo
                      go_wp2_with fail
                      refine (HH2 _ HROW.out).out.mono ?_
                      rintro e w1 ⟨rfl, rfl⟩
                      go_wp2_with fail
                      go_round
                      case rel => exact ⟨x, s1, mn + 1, qn + 1, rfl, rfl, by go_num, by go_num, by omega, by omega, by omega, HNX.out⟩
                      case measure => simp [intOf]; omega
              · have hdq : decide (qn < c.length) = false := decide_eq_false hqt
                have HRE : Hid (R = (oi, sb, mn)) := Lib.hid (by rw [← HQ.out, show qn = c.length by omega, scanC_end])
                rw [HRE.out] at HST
                have HQT := Lib.hid hqt
                clear hqt HQ
                cases sb with
                | true =>
                  have HNX : Hid (roundC (LL.drop (k + 1)) S1 = RD) := Lib.hid (by
                    have h1 := HST.out
                    rw [if_neg (fun g => by simp at g), if_neg (fun g => by simp at g)] at h1
                    have h2 := HAT1.out
                    rw [h1] at h2
                    exact h2.symm)
                  go_wp2_with fail
                  go_roundw
                  case rel => exact ⟨k + 1, S1, by go_num, by omega, HS1.out, by omega, HNX.out⟩
                  case measure => simp [intOf]; omega
                | false =>
                  by_cases hm0 : mn = 0
                  · have HRN : Hid (res = none) := Lib.hid (by
                      have h1 := HST.out
                      rw [if_pos ⟨rfl, hm0⟩] at h1
                      have h2 := HAT1.out
                      rw [h1] at h2
                      have h3 := HAT.out.1 h2
                      rw [← HR0.out, h3]; rfl)
                    subst hm0
                    go_wp2_with fail
                    go_ret2
                    exact .inl ⟨HRN.out, rfl, HS1.out.own.be⟩
                  · have e0 : ((mn : Int) == 0) = false := ief (by omega)
                    by_cases hm1 : mn = 1
                    · have HNX : Hid (roundC (LL.drop (k + 1)) (S1 ++ [oi]) = RD) := Lib.hid (by
                        have h1 := HST.out
                        rw [if_neg (fun g => hm0 g.2), if_pos ⟨rfl, hm1⟩] at h1
                        have h2 := HAT1.out
                        rw [h1] at h2
                        exact h2.symm)
                      have e1 : ((mn : Int) == 1) = true := iet (by omega)
                      have hbz := HS1.out.own.bsz
                      have hown : wr.ownsRow w.heap.size 3 1 (.slice ta S1.length tc) S1.length (intVals S1) := by have := HS1.out.own.own; rwa [intVals_length] at this
                      clear hm1 hm0
                      go_wp2_with (at_builtin; refine wpList_app _ rfl _ _ 31 rfl w.heap.size 3 i0 (.int .i64 0) 8 Try.underlying31 HI0.out HZ0.out HZ1.out HZ2.out rfl _ S1.length (intVals S1) rfl (hown.alloc _) (.slice (some ⟨wr.heap.size, 0, none⟩) 1 1) (intVals [oi]) rfl (fresh_row _ _ _ _ rfl) (intVals_one _) (by rw [intVals_length]; unfold maxLen; simp; omega) (by rw [intVals_length]; simp; omega) (by simp; omega) ?_)
                      intro v2 w2 ha2
                      have HS2 : Hid (SetAt w v2 (S1 ++ [oi]) w2) := Lib.hid ⟨by
                        rw [intVals_app]
                        exact HS1.out.own.app ((Below.refl _ _).alloc (Nat.le_refl _) _) (ha2.cast (intVals_length _).symm), fun x hx => by
                        rcases List.mem_append.1 hx with hx | hx
                        · exact HS1.out.small x hx
                        · rw [List.mem_singleton] at hx; rw [hx]; exact hoi⟩
                      obtain ⟨a2, n2, c2, rfl⟩ := ha2.shape
                      clear ha2 hown
                      go_wp2_with fail
                      go_roundw
                      case rel => exact ⟨k + 1, S1 ++ [oi], by go_num, by omega, HS2.out, by rw [List.length_append]; simp; omega, HNX.out⟩
                      case measure => simp [intOf]; omega
                    · have HNX : Hid (roundC (LL.drop (k + 1)) S1 = RD) := Lib.hid (by
                        have h1 := HST.out
                        rw [if_neg (fun g => hm0 g.2), if_neg (fun g => hm1 g.2)] at h1
                        have h2 := HAT1.out
                        rw [h1] at h2
                        exact h2.symm)
                      have e1 : ((mn : Int) == 1) = false := ief (by omega)
                      clear hm1 hm0
                      go_wp2_with fail
                      go_roundw
                      case rel => exact ⟨k + 1, S1, by go_num, by omega, HS1.out, by omega, HNX.out⟩
                      case measure => simp [intOf]; omega
          · have hdk : decide (k < LL.length) = false := decide_eq_false hlt
            have HNX : Hid (roundsC LL (n + 1 - (r + 1)) S1 = RR) := Lib.hid (by
              have h1 := HRD1.out
              rw [show k = LL.length by omega, roundC_end] at h1
              rw [show n + 1 - (r + 1) = n - r by omega]
              exact HAT.out.2 S1 h1.symm)
            have HLT := Lib.hid hlt
            clear hlt
            go_wp2_with fail
            go_roundw
            case rel => exact ⟨r + 1, S1, by go_num, by omega, HS1.out, by omega, HNX.out⟩
            case measure => simp [intOf]; omega
      · have hdr : decide ((r : Int) ≤ (n : Int)) = false := decide_eq_false (by omega)
        have hdr' : decide (r ≤ n) = false := decide_eq_false hrn
        have HRE : Hid (res = some (normL S)) := Lib.hid (by
          have h1 := HRS.out
          rw [show n + 1 - r = 0 by omega] at h1
          rw [← HR0.out, ← h1]; rfl)
        have hrow := HS.out.own.row
        obtain ⟨ta, tc, rfl⟩ := hrow.shape
        rw [intVals_length] at hrow HS
        rw [intVals_length]
        have HROW := Lib.hid hrow
        have HRN := Lib.hid hrn
        clear hrow hrn
        go_wp2_with fail
        refine (rnorm_any ta tc S _ HROW.out (by omega) HS.out.small).mono ?_
        rintro e w6 ⟨na, nc, rfl, hn2, hbn⟩
        have HN := Lib.hid hn2
        have HB := Lib.hid (HS.out.own.be.trans (hbn.mono HS.out.own.be.size))
        clear hn2 hbn
        go_wp2_with fail
        go_ret2
        exact .inr ⟨_, na, nc, HRE.out, rfl, HN.out, HB.out⟩
end Go.Proofs.Yteimfcokobdldaa
