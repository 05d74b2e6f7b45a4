/- The contract of the walk of the heap's down. -/
import Derived.Test.YtfhbndfdlnbfpaaOrdD
namespace Go.Proofs.Ytfhbndfdlnbfpaa
open Go.RowKit
set_option linter.unusedVariables false
def DownPost (w : World) (H S P G cg n : Nat) (sc : List Int) (hp : List Nat) (lo : Nat) (w' : World) : Prop :=
  ∃ hp' pl', HeapAt w' H S P (.slice (some ⟨G, 0, none⟩) n cg) sc hp' pl' ∧ hp'.Perm hp ∧ HeapFrom sc hp' lo ∧ Kept [H, S, P, G] w w'
def DownRel (w : World) (H S P G cg n : Nat) (sc : List Int) (hp : List Nat) (lo k : Nat) (wr : World) : Prop :=
  ∃ hp' pl', HeapAt wr H S P (.slice (some ⟨G, 0, none⟩) n cg) sc hp' pl' ∧ hp'.Perm hp ∧ k ≤ hp'.length ∧ DownInv sc hp' lo k ∧ Kept [H, S, P, G] w wr
theorem DownPost.drewN {w : World} {H S P G cg n : Nat} {sc : List Int} {hp : List Nat} {lo : Nat} {w' : World} (h : DownPost w H S P G cg n sc hp lo w') (q : Nat) : DownPost w H S P G cg n sc hp lo (w'.drewN q) := by
  obtain ⟨hp', pl', h1, h2, h3, h4⟩ := h
  exact ⟨hp', pl', h1.drewN q, h2, h3, h4.drewN q⟩
set_option maxRecDepth 1000000 in
set_option maxHeartbeats 3200000 in
theorem down_any (w : World) (H S P G cg : Nat) (sc : List Int) (hp : List Nat) (pl : List Int) (n : Nat) (h : HeapAt w H S P (.slice (some ⟨G, 0, none⟩) n cg) sc hp pl) (i lo : Nat) (hi : i ≤ hp.length) (hl : hp.length ≤ 1000) (hu : DownInv sc hp lo i) :
    Calls Try.prog 26 #[.pointer (some ⟨H, 0, none⟩), .int .i64 i] w fun e w' => e = .returned (.tuple #[]) ∧ DownPost w H S P G cg n sc hp lo w' := by
  have h0 : DownRel w H S P G cg n sc hp lo i w := ⟨hp, pl, h, .refl _, hi, hu, .refl _ _⟩
  clear h hu hi
  go_enter Try.func26, Try.ntmps26
  go_wp2_with fail
  go_loopw [1] (fun i wr => ∃ k : Nat, i = .int .i64 k ∧ DownRel w H S P G cg n sc hp lo k wr) (fun i _ => 1001 - (intOf i).toNat)
  case atStart => exact ⟨i, rfl, h0⟩
  case round =>
    obtain ⟨i, rfl, hp', pl', hA, hperm, hk, hinv, hkept⟩ := hrel
    have hlen : hp'.length ≤ 1000 := by rw [hperm.length_eq]; exact hl
    have HN := Lib.hid (heap_n hA)
    have c1 := hA.c1
    have hw1 : IntKind.i64.wrap (2 * (i : Int)) = 2 * (i : Int) := IntWalk.i64_in _ (by omega)
    have hw2 : IntKind.i64.wrap (2 * (i : Int) + 1) = 2 * (i : Int) + 1 := IntWalk.i64_in _ (by omega)
    by_cases k1 : n ≤ 2 * i + 1
    · have HE : Hid (DownPost w H S P G cg n sc hp lo wr) := ⟨hp', pl', hA, hperm, down_stop hinv (fun j j0 jl jp => by rw [← HN.out] at jl; omega), hkept⟩
      have hd : decide ((n : Int) ≤ 2 * (i : Int) + 1) = true := decide_eq_true (by omega)
      clear hA hinv
      go_wp2_with fail
      refine bodyPost_ret (results_none rfl _ _ _) rfl ?_
      exact ⟨rfl, HE.out⟩
    · have hn : n = hp'.length := HN.out
      have hd : decide ((n : Int) ≤ 2 * (i : Int) + 1) = false := decide_eq_false (by omega)
      have l1 : 2 * i + 1 < hp'.length := by omega
      have l0 : i < hp'.length := by omega
      have ci := g_get hA i l0
      have cj := g_get hA (2 * i + 1) l1
      have mi := g_lt hA i l0
      have mj := g_lt hA (2 * i + 1) l1
      have p1 : 2 * (i : Int) + 1 < (n : Int) := by omega
      have p0 : (0 : Int) ≤ 2 * (i : Int) + 1 := by omega
      have pt : (2 * (i : Int) + 1).toNat = 2 * i + 1 := by omega
      have q0 : (0 : Int) ≤ (i : Int) := by omega
      have q1 : (i : Int) < (n : Int) := by omega
      have hw3 : IntKind.i64.wrap (2 * (i : Int) + 1 + 1) = 2 * (i : Int) + 1 + 1 := IntWalk.i64_in _ (by omega)
      obtain ⟨vi, hvi⟩ : ∃ v, hp'.getD i 0 = v := ⟨_, rfl⟩
      obtain ⟨vj, hvj⟩ : ∃ v, hp'.getD (2 * i + 1) 0 = v := ⟨_, rfl⟩
      rw [hvi] at ci mi
      rw [hvj] at cj mj
      have HA := Lib.hid hA
      have HINV := Lib.hid hinv
      have HVI := Lib.hid hvi
      have HVJ := Lib.hid hvj
      clear hA hinv hvi hvj hn
      by_cases k2 : 2 * i + 2 < n
      · have k2' : 2 * i + 2 < hp'.length := by rw [← HN.out]; exact k2
        have cu := g_get HA.out (2 * i + 2) k2'
        have mu := g_lt HA.out (2 * i + 2) k2'
        have hd2 : decide (2 * (i : Int) + 1 + 1 < (n : Int)) = true := decide_eq_true (by omega)
        have s1 : 2 * (i : Int) + 1 + 1 < (n : Int) := by omega
        have s0 : (0 : Int) ≤ 2 * (i : Int) + 1 + 1 := by omega
        have st : (2 * (i : Int) + 1 + 1).toNat = 2 * i + 2 := by omega
        obtain ⟨vu, hvu⟩ : ∃ v, hp'.getD (2 * i + 2) 0 = v := ⟨_, rfl⟩
        rw [hvu] at cu mu
        have HVU := Lib.hid hvu
        clear hvu
        obtain ⟨r, HR⟩ : ∃ r, Hid (aheadB (sc.getD vu 0) (sc.getD vj 0) vu vj = r) := ⟨_, rfl⟩
        cases r
        · skip
          obtain ⟨r2, HR2⟩ : ∃ r, Hid (aheadB (sc.getD vj 0) (sc.getD vi 0) vj vi = r) := ⟨_, rfl⟩
          have HB : Hid (∀ j, 0 < j → j < hp'.length → (j - 1) / 2 = i → ¬ ahd sc (hp'.getD j 0) vj) := by
            intro j j0 jl jp
            rcases (by omega : j = 2 * i + 1 ∨ j = 2 * i + 2) with e | e
            · rw [e, HVJ.out]; unfold ahd; omega
            · rw [e, HVU.out]; exact (ahd_false sc vu vj).1 HR.out
          cases r2
          · have HE : Hid (DownPost w H S P G cg n sc hp lo wr) := ⟨hp', pl', HA.out, hperm, down_stop HINV.out (fun j j0 jl jp => by rw [HVI.out]; exact ahd_ntrans (HB.out j j0 jl jp) ((ahd_false sc vj vi).1 HR2.out)), hkept⟩
            go_wp2_with fail
            go_quiet ((go_at_call 29; exact Calls.quiet_of (ahead_is _ H S P _ sc hp' pl' (HA.out.drewN _) vu vj mu mj false HR)))
            go_wp2_with fail
            generalize hwq : wr.drewN nq = wq
            have HAQ : Hid (HeapAt wq H S P (.slice (some ⟨G, 0, none⟩) n cg) sc hp' pl') := by rw [← hwq]; exact HA.out.drewN _
            have HKQ : Hid (Kept [H, S, P, G] w wq) := by rw [← hwq]; exact hkept.drewN _
            have d1 : wq.cell? ⟨H, 1, none⟩ = some (.slice (some ⟨G, 0, none⟩) n cg) := HAQ.out.c1
            have d2 : wq.cell? ⟨G, i, none⟩ = some (.int .i64 vi) := by rw [← hwq]; exact ci
            have d3 : wq.cell? ⟨G, 2 * i + 1, none⟩ = some (.int .i64 vj) := by rw [← hwq]; exact cj
            go_quiet ((go_at_call 29; exact Calls.quiet_of (ahead_is _ H S P _ sc hp' pl' (HAQ.out.drewN _) vj vi mj mi false HR2)))
            go_wp2_with fail
            refine bodyPost_ret (results_none rfl _ _ _) rfl ?_
            rw [← hwq]
            exact ⟨rfl, (HE.out.drewN _).drewN _⟩
          · go_wp2_with fail
            go_quiet ((go_at_call 29; exact Calls.quiet_of (ahead_is _ H S P _ sc hp' pl' (HA.out.drewN _) vu vj mu mj false HR)))
            go_wp2_with fail
            generalize hwq : wr.drewN nq = wq
            have HAQ : Hid (HeapAt wq H S P (.slice (some ⟨G, 0, none⟩) n cg) sc hp' pl') := by rw [← hwq]; exact HA.out.drewN _
            have HKQ : Hid (Kept [H, S, P, G] w wq) := by rw [← hwq]; exact hkept.drewN _
            have d1 : wq.cell? ⟨H, 1, none⟩ = some (.slice (some ⟨G, 0, none⟩) n cg) := HAQ.out.c1
            have d2 : wq.cell? ⟨G, i, none⟩ = some (.int .i64 vi) := by rw [← hwq]; exact ci
            have d3 : wq.cell? ⟨G, 2 * i + 1, none⟩ = some (.int .i64 vj) := by rw [← hwq]; exact cj
            go_quiet ((go_at_call 29; exact Calls.quiet_of (ahead_is _ H S P _ sc hp' pl' (HAQ.out.drewN _) vj vi mj mi true HR2)))
            go_wp2_with fail
            refine (swap_any _ H S P G cg sc hp' pl' n (HAQ.out.drewN _) i (2 * i + 1) l0 l1 hlen).mono ?_
            rintro e w2 ⟨rfl, pl2, hA2, hk2⟩
            have HREL : Hid (DownRel w H S P G cg n sc hp lo (2 * i + 1) w2) :=
              ⟨_, pl2, hA2, (swapL_perm hp' _ _ l0 l1).trans hperm, by rw [swapL_len]; omega, down_step HINV.out (by omega) l1 (by omega) (by rw [HVJ.out]; exact HB.out) (by rw [HVJ.out, HVI.out]; exact (ahd_iff sc vj vi).1 HR2.out), (HKQ.out.drewN _).trans hk2⟩
            clear hA2 hk2
            go_wp2_with fail
            go_roundw
            case rel => exact ⟨2 * i + 1, by first | rfl | (congr 1; omega), HREL.out⟩
            case measure => simp [intOf]; omega
        · skip
          obtain ⟨r2, HR2⟩ : ∃ r, Hid (aheadB (sc.getD vu 0) (sc.getD vi 0) vu vi = r) := ⟨_, rfl⟩
          have HB : Hid (∀ j, 0 < j → j < hp'.length → (j - 1) / 2 = i → ¬ ahd sc (hp'.getD j 0) vu) := by
            intro j j0 jl jp
            rcases (by omega : j = 2 * i + 1 ∨ j = 2 * i + 2) with e | e
            · rw [e, HVJ.out]; exact ahd_asymm ((ahd_iff sc vu vj).1 HR.out)
            · rw [e, HVU.out]; unfold ahd; omega
          cases r2
          · have HE : Hid (DownPost w H S P G cg n sc hp lo wr) := ⟨hp', pl', HA.out, hperm, down_stop HINV.out (fun j j0 jl jp => by rw [HVI.out]; exact ahd_ntrans (HB.out j j0 jl jp) ((ahd_false sc vu vi).1 HR2.out)), hkept⟩
            go_wp2_with fail
            go_quiet ((go_at_call 29; exact Calls.quiet_of (ahead_is _ H S P _ sc hp' pl' (HA.out.drewN _) vu vj mu mj true HR)))
            go_wp2_with fail
            generalize hwq : wr.drewN nq = wq
            have HAQ : Hid (HeapAt wq H S P (.slice (some ⟨G, 0, none⟩) n cg) sc hp' pl') := by rw [← hwq]; exact HA.out.drewN _
            have HKQ : Hid (Kept [H, S, P, G] w wq) := by rw [← hwq]; exact hkept.drewN _
            have d1 : wq.cell? ⟨H, 1, none⟩ = some (.slice (some ⟨G, 0, none⟩) n cg) := HAQ.out.c1
            have d2 : wq.cell? ⟨G, i, none⟩ = some (.int .i64 vi) := by rw [← hwq]; exact ci
            have d3 : wq.cell? ⟨G, 2 * i + 2, none⟩ = some (.int .i64 vu) := by rw [← hwq]; exact cu
            go_quiet ((go_at_call 29; exact Calls.quiet_of (ahead_is _ H S P _ sc hp' pl' (HAQ.out.drewN _) vu vi mu mi false HR2)))
            go_wp2_with fail
            refine bodyPost_ret (results_none rfl _ _ _) rfl ?_
            rw [← hwq]
            exact ⟨rfl, (HE.out.drewN _).drewN _⟩
          · go_wp2_with fail
            go_quiet ((go_at_call 29; exact Calls.quiet_of (ahead_is _ H S P _ sc hp' pl' (HA.out.drewN _) vu vj mu mj true HR)))
            go_wp2_with fail
            generalize hwq : wr.drewN nq = wq
            have HAQ : Hid (HeapAt wq H S P (.slice (some ⟨G, 0, none⟩) n cg) sc hp' pl') := by rw [← hwq]; exact HA.out.drewN _
            have HKQ : Hid (Kept [H, S, P, G] w wq) := by rw [← hwq]; exact hkept.drewN _
            have d1 : wq.cell? ⟨H, 1, none⟩ = some (.slice (some ⟨G, 0, none⟩) n cg) := HAQ.out.c1
            have d2 : wq.cell? ⟨G, i, none⟩ = some (.int .i64 vi) := by rw [← hwq]; exact ci
            have d3 : wq.cell? ⟨G, 2 * i + 2, none⟩ = some (.int .i64 vu) := by rw [← hwq]; exact cu
            go_quiet ((go_at_call 29; exact Calls.quiet_of (ahead_is _ H S P _ sc hp' pl' (HAQ.out.drewN _) vu vi mu mi true HR2)))
            go_wp2_with fail
            refine (swap_any _ H S P G cg sc hp' pl' n (HAQ.out.drewN _) i (2 * i + 2) l0 k2' hlen).mono ?_
            rintro e w2 ⟨rfl, pl2, hA2, hk2⟩
            have HREL : Hid (DownRel w H S P G cg n sc hp lo (2 * i + 2) w2) :=
              ⟨_, pl2, hA2, (swapL_perm hp' _ _ l0 k2').trans hperm, by rw [swapL_len]; omega, down_step HINV.out (by omega) k2' (by omega) (by rw [HVU.out]; exact HB.out) (by rw [HVU.out, HVI.out]; exact (ahd_iff sc vu vi).1 HR2.out), (HKQ.out.drewN _).trans hk2⟩
            clear hA2 hk2
            go_wp2_with fail
            go_roundw
            case rel => exact ⟨2 * i + 2, by first | rfl | (congr 1; omega), HREL.out⟩
            case measure => simp [intOf]; omega
      · have hd2 : decide (2 * (i : Int) + 1 + 1 < (n : Int)) = false := decide_eq_false (by omega)
        have k2' : ¬ 2 * i + 2 < hp'.length := by rw [← HN.out]; exact k2
        obtain ⟨r2, HR2⟩ : ∃ r, Hid (aheadB (sc.getD vj 0) (sc.getD vi 0) vj vi = r) := ⟨_, rfl⟩
        have HB : Hid (∀ j, 0 < j → j < hp'.length → (j - 1) / 2 = i → ¬ ahd sc (hp'.getD j 0) vj) := by
          intro j j0 jl jp
          have e : j = 2 * i + 1 := by omega
          rw [e, HVJ.out]; unfold ahd; omega
        cases r2
        · have HE : Hid (DownPost w H S P G cg n sc hp lo wr) := ⟨hp', pl', HA.out, hperm, down_stop HINV.out (fun j j0 jl jp => by rw [HVI.out]; exact ahd_ntrans (HB.out j j0 jl jp) ((ahd_false sc vj vi).1 HR2.out)), hkept⟩
          go_wp2_with fail
          go_quiet (fail)
          go_wp2_with fail
          generalize hwq : wr.drewN nq = wq
          have HAQ : Hid (HeapAt wq H S P (.slice (some ⟨G, 0, none⟩) n cg) sc hp' pl') := by rw [← hwq]; exact HA.out.drewN _
          have HKQ : Hid (Kept [H, S, P, G] w wq) := by rw [← hwq]; exact hkept.drewN _
          have d1 : wq.cell? ⟨H, 1, none⟩ = some (.slice (some ⟨G, 0, none⟩) n cg) := HAQ.out.c1
          have d2 : wq.cell? ⟨G, i, none⟩ = some (.int .i64 vi) := by rw [← hwq]; exact ci
          have d3 : wq.cell? ⟨G, 2 * i + 1, none⟩ = some (.int .i64 vj) := by rw [← hwq]; exact cj
          go_quiet ((go_at_call 29; exact Calls.quiet_of (ahead_is _ H S P _ sc hp' pl' (HAQ.out.drewN _) vj vi mj mi false HR2)))
          go_wp2_with fail
          refine bodyPost_ret (results_none rfl _ _ _) rfl ?_
          rw [← hwq]
          exact ⟨rfl, (HE.out.drewN _).drewN _⟩
        · go_wp2_with fail
          go_quiet (fail)
          go_wp2_with fail
          generalize hwq : wr.drewN nq = wq
          have HAQ : Hid (HeapAt wq H S P (.slice (some ⟨G, 0, none⟩) n cg) sc hp' pl') := by rw [← hwq]; exact HA.out.drewN _
          have HKQ : Hid (Kept [H, S, P, G] w wq) := by rw [← hwq]; exact hkept.drewN _
          have d1 : wq.cell? ⟨H, 1, none⟩ = some (.slice (some ⟨G, 0, none⟩) n cg) := HAQ.out.c1
          have d2 : wq.cell? ⟨G, i, none⟩ = some (.int .i64 vi) := by rw [← hwq]; exact ci
          have d3 : wq.cell? ⟨G, 2 * i + 1, none⟩ = some (.int .i64 vj) := by rw [← hwq]; exact cj
          go_quiet ((go_at_call 29; exact Calls.quiet_of (ahead_is _ H S P _ sc hp' pl' (HAQ.out.drewN _) vj vi mj mi true HR2)))
          go_wp2_with fail
          refine (swap_any _ H S P G cg sc hp' pl' n (HAQ.out.drewN _) i (2 * i + 1) l0 l1 hlen).mono ?_
          rintro e w2 ⟨rfl, pl2, hA2, hk2⟩
          have HREL : Hid (DownRel w H S P G cg n sc hp lo (2 * i + 1) w2) :=
            ⟨_, pl2, hA2, (swapL_perm hp' _ _ l0 l1).trans hperm, by rw [swapL_len]; omega, down_step HINV.out (by omega) l1 (by omega) (by rw [HVJ.out]; exact HB.out) (by rw [HVJ.out, HVI.out]; exact (ahd_iff sc vj vi).1 HR2.out), (HKQ.out.drewN _).trans hk2⟩
          clear hA2 hk2
          go_wp2_with fail
          go_roundw
          case rel => exact ⟨2 * i + 1, by first | rfl | (congr 1; omega), HREL.out⟩
          case measure => simp [intOf]; omega
end Go.Proofs.Ytfhbndfdlnbfpaa
