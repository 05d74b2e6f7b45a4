/- Parts of the proofs, put together: CnR. -/
import Derived.Test.YtiimkhnngpfnbaaR12
import Derived.Deep.DeepCutAuto
import Derived.Deep.CutBlock
/- The reference's Norm. -/
namespace Go.Proofs.Ytiimkhnngpfnbaa
open Go.RowKit
set_option linter.unusedVariables false
theorem normR_len (c : List Int) : (normR c).length ≤ c.length := by rw [normR_eq]; exact normL_len c
theorem hasB_mem {c : List Int} {x : Int} (h : hasB c x = true) : x ∈ c := by
  obtain ⟨z, hz, e⟩ := List.any_eq_true.1 h
  have e' : z = x := by simpa using e
  exact e' ▸ hz
set_option maxRecDepth 100000 in
set_option maxHeartbeats 1600000 in
theorem rnorm_any (a : Option Addr) (cap : Nat) (c : List Int) (w : World) (h : ValRow w (.slice a c.length cap) (intVals c)) (hlen : c.length ≤ 1000000) (hl : ∀ x ∈ c, -1000000 ≤ x ∧ x ≤ 1000000) :
    Calls Try.prog 31 #[.slice a c.length cap] w (SliceOf w (normL c)) := by
  have H := Lib.hid h
  have HL := Lib.hid hl
  clear h hl
  obtain ⟨i0, hi0, hz0, hz1, hz2⟩ := info_parts' infoI
  have HI0 := Lib.hid hi0
  have HZ0 := Lib.hid hz0
  have HZ1 := Lib.hid hz1
  have HZ2 := Lib.hid hz2
  clear hi0 hz0 hz1 hz2
  go_enter Try.func31, Try.ntmps31
  go_wp2_with fail
  go_loopw [3, 4] (fun o i wr => ∃ (k : Nat), i = .int .i64 k ∧ k ≤ c.length ∧ OwnV w.heap.size 3 w wr o (intVals (normR (c.take k)))) (fun _ i _ => c.length - (intOf i).toNat)
  case atStart => exact ⟨0, rfl, Nat.zero_le _, OwnV.none _ _ _ (Nat.le_refl _)⟩
  case round =>
    rename_i o i
    obtain ⟨k, rfl, hk, hN⟩ := hrel
    have HN := Lib.hid hN
    clear hN
    obtain ⟨wo, hwo⟩ : ∃ wo, wo = wr := ⟨_, rfl⟩
    subst hwo
    have k0 : (0 : Int) ≤ (k : Int) := by omega
    by_cases hlt : k < c.length
    · have k1 : (k : Int) < (c.length : Int) := by omega
      have hdk : decide (k < c.length) = true := decide_eq_true hlt
      obtain ⟨b, off, rfl, hbw, hc⟩ := int_at (H.out.below HN.out.be) k hlt
      have e : c.getD k 0 = c[k] := by simp [hlt]
      have HTK := Lib.hid (List.take_succ_eq_append_getElem hlt)
      have HMEM := List.getElem_mem hlt
      rw [← e] at HTK HMEM
      have HM := Lib.hid HMEM
      clear e HMEM
      obtain ⟨x, hx⟩ : ∃ x, c.getD k 0 = x := ⟨_, rfl⟩
      rw [hx] at hc HTK HM
      clear hx
      have HX := Lib.hid (HL.out x HM.out)
      have HNX : Hid (normR (c.take (k + 1)) = stepR (normR (c.take k)) x) := Lib.hid (by rw [HTK.out, normL_snoc])
      have hol : (normR (c.take k)).length ≤ 1000000 := Nat.le_trans (normR_len _) (by rw [List.length_take]; omega)
      have HOB : Hid (∀ y ∈ normR (c.take k), -1000000 ≤ y ∧ y ≤ 1000000) := Lib.hid (fun y hy => HL.out y (List.mem_of_mem_take ((normL_mem _ y).1 (by rw [← normR_eq]; exact hy))))
      obtain ⟨O, hO⟩ : ∃ O, normR (c.take k) = O := ⟨_, rfl⟩
      rw [hO] at HN hol HNX HOB
      clear hO
      have hrow := HN.out.row
      obtain ⟨oa, oc, rfl⟩ := hrow.shape
      rw [intVals_length] at hrow HN
      rw [intVals_length]
      have HROW := Lib.hid hrow
      obtain ⟨u, hu⟩ : ∃ u, hasB O x = u := ⟨_, rfl⟩
      have HU := Lib.hid hu
      clear hrow hu
      go_wp2_with fail
      refine (has_any oa oc O x _ HROW.out u HU).mono ?_
      rintro e w1 ⟨rfl, rfl⟩
      cases u with
      | true =>
        have HNXT : Hid (normR (c.take (k + 1)) = O) := Lib.hid (by rw [HNX.out]; unfold stepR; rw [if_pos HU.out])
        go_wp2_with fail
        go_roundw
        case rel => exact ⟨k + 1, by go_num, by omega, by rw [HNXT.out]; exact HN.out⟩
        case measure => simp [intOf]; omega
      | false =>
        have HNXT : Hid (normR (c.take (k + 1)) = insR x O) := Lib.hid (by rw [HNX.out]; unfold stepR; rw [HU.out]; rfl)
        have HPL := Lib.hid (placeR_le x O O.length)
        obtain ⟨p, hp⟩ : ∃ p, placeR x O O.length = p := ⟨_, rfl⟩
        have HPP := Lib.hid hp
        rw [hp] at HPL
        clear hp
        go_upto_block 2 with (fail)
        go_cut [5] (fun at_ wx => at_ = .int .i64 p ∧ ∃ m, wx = wo.drewN m)
        case first =>
          go_wp2_with fail
          go_loopw [5] (fun at_ wr => ∃ (j m : Nat), at_ = .int .i64 j ∧ j ≤ O.length ∧ Hid (p = placeR x O j) ∧ wr = wo.drewN m) (fun at_ _ => (intOf at_).toNat)
          case atStart => exact ⟨O.length, 0, rfl, Nat.le_refl _, Lib.hid HPP.out.symm, rfl⟩
          case round =>
            obtain ⟨j, m, rfl, hj, HP, rfl⟩ := hrel
            cases j with
            | zero =>
              have d1 : decide ((0 : Int) < ((0 : Nat) : Int)) = false := rfl
              go_wp2_with fail
              go_quiet (fail)
              go_wp2_with fail
              go_meet
              exact ⟨by rw [HP.out]; rfl, m + nq, by rw [World.drewN_drewN]⟩
            | succ j =>
              obtain ⟨b2, o2, rfl, _, hc2⟩ := valRow_cells HROW.out j (by rw [intVals_length]; omega)
              have c2 := hc2 j (by rw [intVals_length]; omega)
              rw [intVals_get _ _ (by omega)] at c2
              clear hc2
              have HY0 : Hid (O.getD j 0 ∈ O) := Lib.hid (by rw [show O.getD j 0 = O[j]'(by omega) from by simp [show j < O.length by omega]]; exact List.getElem_mem _)
              have HP2 : Hid (placeR x O (j + 1) = if befI x (O.getD j 0) then placeR x O j else j + 1) := Lib.hid rfl
              obtain ⟨y, hy⟩ : ∃ y, O.getD j 0 = y := ⟨_, rfl⟩
              rw [hy] at c2 HY0 HP2
              clear hy
              have HYB := Lib.hid (HOB.out y HY0.out)
              have d1 : (wo.drewN m).cell? ⟨b, off + k, none⟩ = some (.int .i64 x) := hc
              have d2 : (wo.drewN m).cell? ⟨b2, o2 + j, none⟩ = some (.int .i64 y) := c2
              obtain ⟨wm, HW⟩ : ∃ wm, Hid (wo.drewN m = wm) := ⟨_, rfl⟩
              rw [HW.out] at d1 d2 ⊢
              have j0 : (0 : Int) ≤ (j : Int) := by omega
              have j1 : (j : Int) < (O.length : Int) := by omega
              obtain ⟨u, hu⟩ : ∃ u, decide (befI x y) = u := ⟨_, rfl⟩
              have HUU := Lib.hid hu
              have HBF := fun W => Lib.hid (rbefore_any x y W HX.out HYB.out u HUU)
              clear c2 hu
              cases u with
              | true =>
                have HPN : Hid (p = placeR x O j) := Lib.hid (by rw [HP.out, HP2.out, if_pos (of_decide_eq_true HUU.out)])
                go_wp2_with fail
                go_quiet ((go_at_call 38; exact Calls.quiet_of_same ((HBF _).out)))
                go_wp2_with fail
                go_roundw
                case rel => exact ⟨j, m + nq, by go_num, by omega, HPN, by rw [← HW.out, World.drewN_drewN]⟩
                case measure => simp [intOf]
              | false =>
                have HPN : Hid (p = j + 1) := Lib.hid (by rw [HP.out, HP2.out, if_neg (of_decide_eq_false HUU.out)])
                go_wp2_with fail
                go_quiet ((go_at_call 38; exact Calls.quiet_of_same ((HBF _).out)))
                go_wp2_with fail
                go_meet
                exact ⟨by rw [HPN.out], m + nq, by rw [← HW.out, World.drewN_drewN]⟩
        case rest =>
          obtain ⟨rfl, m, rfl⟩ := hcut
          have hbe : Below w.heap.size w (wo.drewN m) := below_drewN' HN.out.be m
          have hcq : (wo.drewN m).cell? ⟨b, off + k, none⟩ = some (.int .i64 x) := hc
          have hrq : ValRow (wo.drewN m) (.slice oa O.length oc) (intVals O) := HROW.out
          clear hc
          obtain ⟨wq, hwq⟩ : ∃ wq, wo.drewN m = wq := ⟨_, rfl⟩
          rw [hwq] at hbe hcq hrq ⊢
          have HBE := Lib.hid hbe
          have HCQ := Lib.hid hcq
          have HRQ := Lib.hid hrq
          have hple := HPL.out
          have hcapq := cap_of_row hrq
          rw [intVals_length] at hcapq
          have hs1 := fun W => run_cut_h oa O.length oc p (by omega) W
          have hs2 := fun W => run_cut_l oa O.length oc p hple W
          have HV1 : Hid (ValRow wq (sliced oa 0 p oc 1) (intVals (O.take p))) := Lib.hid (by
            have := valRow_sliced hrq 0 p (Nat.zero_le _) (by rw [intVals_length]; exact hple)
            simpa [intVals, List.map_take] using this)
          have HV2 : Hid (ValRow wq (sliced oa p O.length oc 1) (intVals (O.drop p))) := Lib.hid (by
            have := valRow_sliced hrq p O.length hple (Nat.le_of_eq (intVals_length _).symm)
            rw [List.take_of_length_le (Nat.le_of_eq (intVals_length _))] at this
            simpa [intVals, List.map_drop] using this)
          obtain ⟨s1, hs1'⟩ : ∃ v, sliced oa 0 p oc 1 = v := ⟨_, rfl⟩
          obtain ⟨s2, hs2'⟩ : ∃ v, sliced oa p O.length oc 1 = v := ⟨_, rfl⟩
          rw [hs1'] at hs1 HV1
          rw [hs2'] at hs2 HV2
          have hbsz : w.heap.size ≤ wq.heap.size := hbe.size
          clear hwq hbe hcq hrq hs1' hs2'
          have HOL := OwnV.lit wq #[] 3 0 rfl (Nat.zero_le _)
          go_wp2_with (at_builtin; refine wpList_app _ rfl _ _ 27 rfl wq.heap.size 3 i0 (.int .i64 0) 8 Try.underlying27 HI0.out HZ0.out HZ1.out HZ2.out rfl _ 0 [] rfl HOL.own s1 (intVals (O.take p)) rfl (HV1.out.below ((Below.refl _ _).alloc (Nat.le_refl _) _)) (intVals_one _) (by rw [intVals_length]; unfold maxLen; simp; omega) (by rw [intVals_length]; simp; omega) (by simp) ?_)
          intro v1 w1 ha1
          have HA1 : Hid (OwnV wq.heap.size 3 wq w1 v1 (intVals (O.take p))) := Lib.hid (HOL.app (Below.refl _ _) ha1)
          obtain ⟨a1, n1, c1, rfl⟩ := ha1.shape
          have hc1 := (HA1.out.be.cell (p := ⟨b, off + k, none⟩) (by have := lt_of_cell HCQ.out; omega)).trans HCQ.out
          have hb1 := HA1.out.bsz
          clear ha1
          have hl1 : (O.take p).length ≤ 1000000 := by rw [List.length_take]; omega
          go_wp2_with (at_builtin; refine wpList_app _ rfl _ _ 27 rfl wq.heap.size 3 i0 (.int .i64 0) 8 Try.underlying27 HI0.out HZ0.out HZ1.out HZ2.out rfl (.slice a1 n1 c1) _ _ rfl (HA1.out.own.alloc _) (.slice (some ⟨w1.heap.size, 0, none⟩) 1 1) (intVals [x]) rfl (fresh_row _ _ _ _ rfl) (intVals_one _) (by rw [intVals_length, intVals_length]; unfold maxLen; simp; omega) (by rw [intVals_length, intVals_length]; simp; omega) (by simp; omega) ?_)
          intro v2 w2 ha2
          have HA2 : Hid (OwnV wq.heap.size 3 wq w2 v2 (intVals (O.take p ++ [x]))) := Lib.hid (by rw [intVals_app]; exact HA1.out.app ((Below.refl _ _).alloc (Nat.le_refl _) _) ha2)
          obtain ⟨a2, n2, c2, rfl⟩ := ha2.shape
          have hb2 := HA2.out.bsz
          clear ha2 hc1
          have hl2 : (O.drop p).length ≤ 1000000 := by rw [List.length_drop]; omega
          go_wp2_with (at_builtin; refine wpList_app _ rfl _ _ 27 rfl wq.heap.size 3 i0 (.int .i64 0) 8 Try.underlying27 HI0.out HZ0.out HZ1.out HZ2.out rfl (.slice a2 n2 c2) _ _ rfl HA2.out.own s2 (intVals (O.drop p)) rfl (HV2.out.below HA2.out.be) (intVals_one _) (by rw [intVals_length, intVals_length, List.length_append]; unfold maxLen; simp; omega) (by rw [intVals_length, intVals_length, List.length_append]; simp; omega) hb2 ?_)
          intro v3 w3 ha3
          have HA3 : Hid (OwnV wq.heap.size 3 wq w3 v3 (intVals (insR x O))) := Lib.hid (by
            have := HA2.out.app (Below.refl _ _) ha3
            rw [← intVals_app] at this
            unfold insR
            rw [HPP.out]
            simpa using this)
          obtain ⟨a3, n3, c3, rfl⟩ := ha3.shape
          clear ha3
          go_wp2_with fail
          go_roundw
          case rel => exact ⟨k + 1, by go_num, by omega, by rw [HNXT.out]; exact HA3.out.lower hbsz HBE.out⟩
          case measure => simp [intOf]; omega
    · have hdk : decide (k < c.length) = false := decide_eq_false hlt
      have HT : Hid (normR (c.take k) = normL c) := Lib.hid (by rw [normR_eq, List.take_of_length_le (by omega)])
      have hrow := HN.out.row
      rw [HT.out] at hrow
      obtain ⟨oa, oc, rfl⟩ := hrow.shape
      rw [intVals_length] at hrow
      rw [intVals_length]
      have HROW := Lib.hid hrow
      have HLT := Lib.hid hlt
      clear hlt hrow
      go_wp2_with fail
      go_ret
      exact ⟨_, _, rfl, HROW.out, HN.out.be⟩
end Go.Proofs.Ytiimkhnngpfnbaa
