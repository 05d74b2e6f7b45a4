/- The contract of the walk of Bump where all scores are made smaller. -/
import Derived.Test.YtfhbndfdlnbfpaaOrdM
namespace Go.Proofs.Ytfhbndfdlnbfpaa
open Go.RowKit
set_option linter.unusedVariables false
def ShrRel (w : World) (H S P G cg n : Nat) (sc1 : List Int) (hp : List Nat) (k : Nat) (wr : World) : Prop :=
  ∃ hp' pl', HeapAt wr H S P (.slice (some ⟨G, 0, none⟩) n cg) (shrK k sc1) hp' pl' ∧ hp'.Perm hp ∧ Kept [H, S, P, G] w wr
def DownAll (w : World) (H S P G cg n : Nat) (sc2 : List Int) (hp : List Nat) (k : Nat) (wr : World) : Prop :=
  ∃ hp' pl', HeapAt wr H S P (.slice (some ⟨G, 0, none⟩) n cg) sc2 hp' pl' ∧ hp'.Perm hp ∧ HeapFrom sc2 hp' k ∧ Kept [H, S, P, G] w wr
theorem ShrRel.step {w : World} {H S P G cg n : Nat} {sc1 : List Int} {hp : List Nat} {k : Nat} {wr : World} (h : ShrRel w H S P G cg n sc1 hp k wr) (hk : k < sc1.length) :
    ShrRel w H S P G cg n sc1 hp (k + 1) (wr.setCell ⟨S, k, none⟩ (.int .i64 (sc1.getD k 0 / 1048576))) := by
  obtain ⟨hp', pl', h1, h2, h3⟩ := h
  refine ⟨hp', pl', ?_, h2, h3.setCell (by simp) _⟩
  rw [shrK_succ k sc1 hk]
  exact h1.score k _
set_option maxRecDepth 1000000 in
set_option maxHeartbeats 6400000 in
theorem bump_big (w : World) (H S P G cg n : Nat) (sc : List Int) (hp : List Nat) (pl : List Int) (h : HeapAt w H S P (.slice (some ⟨G, 0, none⟩) n cg) sc hp pl) (hh : HeapFrom sc hp 0) (hok : ScOk sc) (v : Nat) (h1 : 1 ≤ v) (h2 : v < sc.length)
    (b : Int) (b0 : 0 ≤ b) (b1 : b ≤ 1099511627776) (hs : 1099511627776 < sc.getD v 0 + b) :
    Calls Try.prog 13 #[.pointer (some ⟨H, 0, none⟩), .int .i64 v, .int .i64 b] w fun e w' => e = .returned (.bool true) ∧ BumpPost w H S P G cg n (shr20 (raise sc v b)) hp w' := by
  have hz := h.sz
  have HV : Hid (knownB sc.length (v : Int) = true) := by unfold knownB; exact decide_eq_true (by omega)
  have c0 := h.c0
  have cv := sc_get h.rS h2 rfl
  have fs := h.rS.frozenAt v
  have hx := hok v h2
  have HS := Lib.hid (h.score v (sc.getD v 0 + b))
  have HK : Hid (Kept [H, S, P, G] w (w.setCell ⟨S, v, none⟩ (.int .i64 (sc.getD v 0 + b)))) := (Kept.refl _ w).setCell (by simp) _
  have HR : Hid (sc.set v (sc.getD v 0 + b) = raise sc v b) := Lib.hid rfl
  obtain ⟨x, hxx⟩ : ∃ x, sc.getD v 0 = x := ⟨_, rfl⟩
  rw [hxx] at cv hx HS HK HR hs
  have v0 : (0 : Int) ≤ (v : Int) := by omega
  have v1 : (v : Int) < (sc.length : Int) := by omega
  obtain ⟨x0, x1⟩ := hx
  have HL : Hid (hp.length ≤ 1000) := by
    have := nodup_len sc.length hp h.nd (fun u hu => (h.rg u hu).2)
    exact Lib.hid (by omega)
  have hn := heap_n h
  have HH := Lib.hid h
  have HF := Lib.hid hh
  have HX := Lib.hid hxx
  have hn1 : n ≤ 1000 := by rw [hn]; exact HL.out
  have HN := Lib.hid hn
  have HOK : Hid (∀ k, k < sc.length → 0 ≤ (raise sc v b).getD k 0 ∧ (raise sc v b).getD k 0 ≤ 2199023255552) := by
    refine Lib.hid (fun k hk => ?_)
    have := hok k hk
    by_cases e : k = v
    · rw [e, raise_self _ _ _ h2, hxx]; omega
    · rw [raise_ne _ _ _ _ e]; omega
  clear h hh hok hxx hn
  obtain ⟨w1, HW⟩ : ∃ w1, Hid (w.setCell ⟨S, v, none⟩ (.int .i64 (x + b)) = w1) := ⟨_, rfl⟩
  have HA : Hid (HeapAt w1 H S P (.slice (some ⟨G, 0, none⟩) n cg) (raise sc v b) hp pl) := by rw [← HW.out, ← HR.out]; exact HS
  have HK1 : Hid (Kept [H, S, P, G] w w1) := by rw [← HW.out]; exact HK
  clear HS HK
  have d0 := HA.out.c0
  have d2 := HA.out.c2
  rw [raise_len] at d0 d2
  have h2' : v < (raise sc v b).length := by rw [raise_len]; exact h2
  have dp := pl_get HA.out h2'
  have dv := sc_get HA.out.rS h2' rfl
  rw [raise_self _ _ _ h2, HX.out] at dv
  have HLN : Hid ((raise sc v b).length = sc.length) := Lib.hid (raise_len _ _ _)
  clear h2'
  by_cases hv : v ∈ hp
  case' pos =>
    obtain ⟨i, hi, hg, e⟩ := HA.out.pl.inn hv
    rw [e] at dp
    have HG := Lib.hid hg
    clear e hg hv
    have i0 : (0 : Int) ≤ (i : Int) := by omega
    have HU : Hid (UpInv (raise sc v b) hp i) := by
      have := upInv_raise HF.out HH.out.nd (fun u hu => (HH.out.rg u hu).2) hi b b0
      rw [HG.out] at this
      exact this
    go_enter Try.func13, Try.ntmps13
    go_wp2_with fail
    refine (known_any _ _ _ _ _ _ _ _ HH.out v true HV).mono ?_
    rintro e w0 ⟨rfl, rfl⟩
    have hw := HW.out
    go_wp2_with fail
    clear hw
    refine (up_any _ H S P G cg _ hp pl n HA.out i hi HL.out HU.out).mono ?_
    rintro e w2 ⟨rfl, hp2, pl2, hA2, hperm2, hf2, hk2⟩
    have HE : Hid (ShrRel w0 H S P G cg n (raise sc v b) hp 0 w2) := ⟨hp2, pl2, by rw [shrK_zero]; exact hA2, hperm2, HK1.out.trans hk2⟩
    have f0 := hA2.c0
    rw [raise_len] at f0
    have fv := sc_get hA2.rS (a := v) (by rw [raise_len]; exact h2) rfl
    rw [raise_self _ _ _ h2, HX.out] at fv
    clear hA2 hperm2 hf2 hk2 d0 d2 dp dv c0 cv HU HW HA HK1 HG i0 hi HH HF HR
    go_wp2_with fail
  case' neg =>
    rw [HA.out.pl.outt (by rw [raise_len]; exact h2) hv] at dp
    have HE : Hid (ShrRel w H S P G cg n (raise sc v b) hp 0 w1) := ⟨hp, pl, by rw [shrK_zero]; exact HA.out, .refl _, HK1.out⟩
    go_enter Try.func13, Try.ntmps13
    go_wp2_with fail
    refine (known_any _ _ _ _ _ _ _ _ HH.out v true HV).mono ?_
    rintro e w0 ⟨rfl, rfl⟩
    have hw := HW.out
    go_wp2_with fail
    clear hw d0 d2 dp dv c0 cv HW HA HK1 HH HF HR hv
    have f0 := True.intro
    have fv := True.intro
  all_goals
    go_loopw [61] (fun i wr => ∃ k : Nat, i = .int .i64 k ∧ k ≤ sc.length ∧ ShrRel w0 H S P G cg n (raise sc v b) hp k wr) (fun i _ => sc.length - (intOf i).toNat)
    case atStart => exact ⟨0, rfl, Nat.zero_le _, HE.out⟩
    case round =>
      obtain ⟨k, rfl, hk, hrel⟩ := hrel
      clear f0 fv
      by_cases hlt : k < sc.length
      · have HREL := Lib.hid hrel
        obtain ⟨hp3, pl3, hA3, _, _⟩ := hrel
        have f0 := hA3.c0
        rw [shrK_len, HLN.out] at f0
        have fk := sc_get hA3.rS (a := k) (by rw [shrK_len, HLN.out]; exact hlt) rfl
        rw [shrK_get _ _ (by rw [HLN.out]; exact hlt)] at fk
        have fz := hA3.rS.frozenAt k
        have hy := HOK.out k hlt
        have HST := Lib.hid (HREL.out.step (by rw [HLN.out]; exact hlt))
        obtain ⟨y, hyy⟩ : ∃ y, (raise sc v b).getD k 0 = y := ⟨_, rfl⟩
        rw [hyy] at fk hy HST
        obtain ⟨y0, y1⟩ := hy
        clear hA3 hyy
        have k0 : (0 : Int) ≤ (k : Int) := by omega
        have k1 : (k : Int) < (sc.length : Int) := by omega
        go_wp2_with fail
        go_roundw
        case rel => exact ⟨k + 1, by go_num, by omega, HST.out⟩
        case measure => simp [intOf]; omega
      · have hke : k = sc.length := by omega
        have HD : Hid (DownAll w0 H S P G cg n (shr20 (raise sc v b)) hp (n / 2 + 1) wr) := by
          obtain ⟨hp3, pl3, hA3, hperm, hkept⟩ := hrel
          rw [shrK_all _ _ (by rw [HLN.out]; omega)] at hA3
          have hn3 := heap_n hA3
          refine ⟨hp3, pl3, hA3, hperm, ?_, hkept⟩
          rw [hn3]; exact heapFrom_half _ _
        obtain ⟨hp3, pl3, hA3, _, _⟩ := hrel
        have f1 := hA3.c1
        clear hA3 hke
        go_wp2_with fail
        go_loopw [8] (fun i wr => ∃ k : Nat, i = .int .i64 ((k : Int) - 1) ∧ k ≤ n / 2 + 1 ∧ DownAll w0 H S P G cg n (shr20 (raise sc v b)) hp k wr) (fun i _ => (intOf i + 1).toNat)
        case atStart => exact ⟨n / 2 + 1, by congr 1; omega, by omega, HD.out⟩
        case round =>
          obtain ⟨k, rfl, hk, hrel⟩ := hrel
          clear f1
          by_cases hk0 : k = 0
          · subst hk0
            have HE : Hid (BumpPost w0 H S P G cg n (shr20 (raise sc v b)) hp wr) := Lib.hid hrel
            clear hrel
            go_wp2_with fail
            go_ret
            exact ⟨rfl, HE.out⟩
          · obtain ⟨j, rfl⟩ : ∃ j, k = j + 1 := ⟨k - 1, by omega⟩
            have HREL := Lib.hid hrel
            clear hrel hk0
            have hj : ((j + 1 : Nat) : Int) - 1 = (j : Int) := by omega
            rw [hj]
            clear hj
            go_wp2_with fail
            have HHL : Hid (∀ hp4 : List Nat, hp4.Perm hp → hp4.length ≤ 1000 ∧ n = hp4.length) := by
              refine Lib.hid (fun hp4 hq => ?_)
              rw [hq.length_eq]; exact ⟨HL.out, HN.out⟩
            obtain ⟨hp4, pl4, hA4, hperm4, hf4, hk4⟩ := HREL.out
            have HA4 := Lib.hid hA4
            have HF4 := Lib.hid hf4
            have hq := HHL.out hp4 hperm4
            have hjl : j ≤ hp4.length := by omega
            clear hA4 hf4
            refine (down_any _ H S P G cg _ hp4 pl4 n HA4.out j j hjl hq.1 (heapFrom_down HF4.out)).mono ?_
            rintro e w5 ⟨rfl, hp5, pl5, hA5, hperm5, hf5, hk5⟩
            have HREL5 : Hid (DownAll w0 H S P G cg n (shr20 (raise sc v b)) hp j w5) := ⟨hp5, pl5, hA5, hperm5.trans hperm4, hf5, hk4.trans hk5⟩
            clear hA5 hperm5 hf5 hk5 hq hperm4 hk4
            go_wp2_with fail
            go_roundw
            case rel => exact ⟨j, rfl, by omega, HREL5.out⟩
            case measure => simp [intOf]
end Go.Proofs.Ytfhbndfdlnbfpaa
