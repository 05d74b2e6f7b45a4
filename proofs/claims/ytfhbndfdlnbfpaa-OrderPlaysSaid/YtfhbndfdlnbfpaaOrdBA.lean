/- The document's bag: Bump. -/
import Derived.Test.YtfhbndfdlnbfpaaOrdZ
namespace Go.Proofs.Ytfhbndfdlnbfpaa
open Go.RowKit
set_option linter.unusedVariables false
theorem bbump_out (w : World) (B S I : Nat) (sc inn : List Int) (h : BagAt w B S I sc inn) (v b : Int) (hv : knownB sc.length v = false ∨ b < 0 ∨ 1099511627776 < b) :
    Calls Try.prog 22 #[.pointer (some ⟨B, 0, none⟩), .int .i64 v, .int .i64 b] w fun e w' => e = .returned (.bool false) ∧ w' = w := by
  have HH := Lib.hid h
  clear h
  obtain ⟨r, hr⟩ : ∃ r, knownB sc.length v = r := ⟨_, rfl⟩
  have HR := Lib.hid hr
  rw [hr] at hv
  clear hr
  go_enter Try.func22, Try.ntmps22
  go_wp2_with fail
  refine (bknown w B S I sc inn HH.out v r HR).mono ?_
  rintro e w1 ⟨rfl, rfl⟩
  cases r with
  | false =>
    go_wp2_with fail
    go_ret
    exact ⟨rfl, rfl⟩
  | true =>
    by_cases hb : b < 0
    · have hd : decide (b < 0) = true := decide_eq_true hb
      go_wp2_with fail
      go_ret
      exact ⟨rfl, rfl⟩
    · have hd : decide (b < 0) = false := decide_eq_false hb
      have hd2 : decide (1099511627776 < b) = true := decide_eq_true (by
        rcases hv with h | h | h
        · cases h
        · exact absurd h hb
        · exact h)
      go_wp2_with fail
      go_ret
      exact ⟨rfl, rfl⟩
structure BShr (w : World) (B S I : Nat) (sc inn : List Int) (k : Nat) (wr : World) : Prop where
  bag : BagAt wr B S I (shrK k sc) inn
  kept : Kept [S] w wr
set_option maxHeartbeats 2000000 in
theorem bbump (w : World) (B S I : Nat) (sc inn : List Int) (h : BagAt w B S I sc inn) (hok : ScOk sc) (v : Nat) (h1 : 1 ≤ v) (h2 : v < sc.length) (b : Int) (b0 : 0 ≤ b) (b1 : b ≤ 1099511627776) :
    Calls Try.prog 22 #[.pointer (some ⟨B, 0, none⟩), .int .i64 v, .int .i64 b] w fun e w' => e = .returned (.bool (decide (1099511627776 < sc.getD v 0 + b))) ∧ BagAt w' B S I (bumpSc sc v b) inn ∧ Kept [S] w w' := by
  have HV : Hid (knownB sc.length (v : Int) = true) := by unfold knownB; exact Lib.hid (decide_eq_true (by omega))
  have HH := Lib.hid h
  have hz := h.sz
  have c0 := h.c0
  have cv := h.getS h2
  have fs := h.rS.frozenAt v
  have hx := hok v h2
  have HS := Lib.hid (h.score v (sc.getD v 0 + b))
  have HK : Hid (Kept [S] w (w.setCell ⟨S, v, none⟩ (.int .i64 (sc.getD v 0 + b)))) := (Kept.refl _ w).setCell (by simp) _
  have HOK : Hid (∀ k, k < sc.length → 0 ≤ (raise sc v b).getD k 0 ∧ (raise sc v b).getD k 0 ≤ 2199023255552) := by
    refine Lib.hid (fun k hk => ?_)
    have := hok k hk
    by_cases e : k = v
    · rw [e, raise_self _ _ _ h2]; omega
    · rw [raise_ne _ _ _ _ e]; omega
  have HR : Hid (sc.set v (sc.getD v 0 + b) = raise sc v b) := Lib.hid rfl
  have HBS : Hid (bumpSc sc v b = if sc.getD v 0 + b ≤ 1099511627776 then raise sc v b else shr20 (raise sc v b)) := Lib.hid rfl
  have HRV := Lib.hid (raise_self sc v b h2)
  obtain ⟨x, hxx⟩ : ∃ x, sc.getD v 0 = x := ⟨_, rfl⟩
  rw [hxx] at cv hx HS HK HR HBS HRV ⊢
  obtain ⟨x0, x1⟩ := hx
  have v0 : (0 : Int) ≤ (v : Int) := by omega
  have v1 : (v : Int) < (sc.length : Int) := by omega
  clear h hok hxx
  obtain ⟨w1, HW⟩ : ∃ w1, Hid (w.setCell ⟨S, v, none⟩ (.int .i64 (x + b)) = w1) := ⟨_, rfl⟩
  have HA : Hid (BagAt w1 B S I (raise sc v b) inn) := by rw [← HW.out, ← HR.out]; exact HS
  have HK1 : Hid (Kept [S] w w1) := by rw [← HW.out]; exact HK
  have d0 := HA.out.c0
  rw [raise_len] at d0
  have dv := HA.out.getS (v := v) (by rw [raise_len]; exact h2)
  rw [HRV.out] at dv
  clear HS HK
  have hd1 : decide (b < 0) = false := decide_eq_false (by omega)
  have hd2 : decide (1099511627776 < b) = false := decide_eq_false (by omega)
  by_cases hs : x + b ≤ 1099511627776
  · have hd : decide (1099511627776 < x + b) = false := decide_eq_false (by omega)
    have hd3 : decide (x + b ≤ 1099511627776) = true := decide_eq_true hs
    rw [hd]
    rw [if_pos hs] at HBS
    go_enter Try.func22, Try.ntmps22
    go_wp2_with fail
    refine (bknown w B S I sc inn HH.out v true HV).mono ?_
    rintro e w0 ⟨rfl, rfl⟩
    go_wp2_with fail
    go_region
    rw [HW.out]
    clear c0 cv fs HW HH
    go_wp2_with fail
    go_ret
    exact ⟨rfl, by rw [HBS.out]; exact HA.out.drewN 1, HK1.out.drewN 1⟩
  · have hd : decide (1099511627776 < x + b) = true := decide_eq_true (by omega)
    have hd3 : decide (x + b ≤ 1099511627776) = false := decide_eq_false hs
    rw [hd]
    rw [if_neg hs] at HBS
    have HLN : Hid ((raise sc v b).length = sc.length) := Lib.hid (raise_len _ _ _)
    go_enter Try.func22, Try.ntmps22
    go_wp2_with fail
    refine (bknown w B S I sc inn HH.out v true HV).mono ?_
    rintro e w0 ⟨rfl, rfl⟩
    go_wp2_with fail
    go_region
    rw [HW.out]
    clear c0 cv fs HW HH
    go_wp2_with fail
    have HE : Hid (BShr w0 B S I (raise sc v b) inn 0 (w1.drewN 1)) := ⟨by rw [shrK_zero]; exact HA.out.drewN 1, HK1.out.drewN 1⟩
    clear d0 dv
    go_loopw [7] (fun i wr => ∃ k : Nat, i = .int .i64 k ∧ k ≤ sc.length ∧ BShr w0 B S I (raise sc v b) inn k wr) (fun i _ => sc.length - (intOf i).toNat)
    case atStart => exact ⟨0, rfl, Nat.zero_le _, HE.out⟩
    case round =>
      obtain ⟨k, rfl, hk, hrel⟩ := hrel
      have HREL := Lib.hid hrel
      have f0 := hrel.bag.c0
      rw [shrK_len, HLN.out] at f0
      have k0 : (0 : Int) ≤ (k : Int) := by omega
      by_cases hlt : k < sc.length
      · have hdk : decide (k < sc.length) = true := decide_eq_true hlt
        have fk := hrel.bag.getS (v := k) (by rw [shrK_len, HLN.out]; exact hlt)
        rw [shrK_get _ _ (by rw [HLN.out]; exact hlt)] at fk
        have fz := hrel.bag.rS.frozenAt k
        have hy := HOK.out k hlt
        have HST : Hid (BShr w0 B S I (raise sc v b) inn (k + 1) ((wr.setCell ⟨S, k, none⟩ (.int .i64 ((raise sc v b).getD k 0 / 1048576))).drewN 1)) :=
          ⟨by rw [shrK_succ _ _ (by rw [HLN.out]; exact hlt)]; exact (hrel.bag.score k _).drewN 1, (hrel.kept.setCell (by simp) _).drewN 1⟩
        obtain ⟨y, hyy⟩ : ∃ y, (raise sc v b).getD k 0 = y := ⟨_, rfl⟩
        rw [hyy] at fk hy HST
        obtain ⟨y0, y1⟩ := hy
        clear hrel hyy
        have k1 : (k : Int) < (sc.length : Int) := by omega
        obtain ⟨z, hz'⟩ : ∃ z, y / 1048576 = z := ⟨_, rfl⟩
        have hzz : IntKind.i64.wrap (y.tdiv 1048576) = z := by rw [Int.tdiv_eq_ediv_of_nonneg y0, hz', IntWalk.i64_in _ (by omega)]
        rw [hz'] at HST
        have hzw : wrap64 (y.tdiv 1048576) = z := by rw [Int.tdiv_eq_ediv_of_nonneg y0, hz', IntWalk.wrap64_in _ (by omega)]
        go_wp2_with fail
        go_region
        go_wp2_with fail
        try simp only [hzz, hzw]
        go_roundw
        case rel => exact ⟨k + 1, by go_num, by omega, HST.out⟩
        case measure => simp [intOf]; omega
      · have hdk : decide (k < sc.length) = false := decide_eq_false hlt
        have HF : Hid (BagAt wr B S I (bumpSc sc v b) inn) := by
          rw [HBS.out, ← shrK_all k _ (by rw [HLN.out]; omega)]; exact hrel.bag
        clear hrel
        go_wp2_with fail
        go_ret
        exact ⟨rfl, HF.out, HREL.out.kept⟩
end Go.Proofs.Ytfhbndfdlnbfpaa
