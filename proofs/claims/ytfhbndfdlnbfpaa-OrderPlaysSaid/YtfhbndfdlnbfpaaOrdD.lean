/- The contract of the walk of the heap's up. -/
import Derived.Test.YtfhbndfdlnbfpaaOrdP
namespace Go.Proofs.Ytfhbndfdlnbfpaa
open Go.RowKit
set_option linter.unusedVariables false
theorem sc_get {w : World} {S n : Nat} {sc : List Int} (h : w.ownsRow 0 3 1 (.slice (some ⟨S, 0, none⟩) n n) n (ints sc)) {a : Nat} (ha : a < sc.length) (hn : n = sc.length) : w.cell? ⟨S, a, none⟩ = some (.int .i64 (sc.getD a 0)) := by
  rw [h.cellAt a (by omega), ints_get _ _ ha]
theorem ahead_is (w : World) (H S P : Nat) (gv : Value) (sc : List Int) (hp : List Nat) (pl : List Int) (h : HeapAt w H S P gv sc hp pl) (a b : Nat) (ha : a < sc.length) (hb : b < sc.length) (r : Bool)
    (HR : Hid (aheadB (sc.getD a 0) (sc.getD b 0) a b = r)) :
    Calls Try.prog 29 #[.pointer (some ⟨H, 0, none⟩), .int .i64 a, .int .i64 b] w fun e w' => e = .returned (.bool r) ∧ ∃ m, w' = w.drewN m := by
  rw [← HR.out]
  exact ahead_any H S _ _ _ _ a b w h.c0 (by have := h.sz; omega) ha hb (sc_get h.rS ha rfl) (sc_get h.rS hb rfl)
def UpPost (w : World) (H S P G cg n : Nat) (sc : List Int) (hp : List Nat) (w' : World) : Prop :=
  ∃ hp' pl', HeapAt w' H S P (.slice (some ⟨G, 0, none⟩) n cg) sc hp' pl' ∧ hp'.Perm hp ∧ HeapFrom sc hp' 0 ∧ Kept [H, S, P, G] w w'
def UpRel (w : World) (H S P G cg n : Nat) (sc : List Int) (hp : List Nat) (k : Nat) (wr : World) : Prop :=
  ∃ hp' pl', HeapAt wr H S P (.slice (some ⟨G, 0, none⟩) n cg) sc hp' pl' ∧ hp'.Perm hp ∧ k < hp'.length ∧ UpInv sc hp' k ∧ Kept [H, S, P, G] w wr
theorem UpPost.drewN {w : World} {H S P G cg n : Nat} {sc : List Int} {hp : List Nat} {w' : World} (h : UpPost w H S P G cg n sc hp w') (q : Nat) : UpPost w H S P G cg n sc hp (w'.drewN q) := by
  obtain ⟨hp', pl', h1, h2, h3, h4⟩ := h
  exact ⟨hp', pl', h1.drewN q, h2, h3, h4.drewN q⟩
theorem heap_n {w : World} {H S P G cg n : Nat} {sc : List Int} {hp : List Nat} {pl : List Int} (h : HeapAt w H S P (.slice (some ⟨G, 0, none⟩) n cg) sc hp pl) : n = hp.length := by
  rcases h.rG.2 with ⟨h1, _⟩ | ⟨g, cap, cur, h1, _⟩
  · cases h1
  · injection h1 with _ h1
theorem g_get {w : World} {H S P G cg n : Nat} {sc : List Int} {hp : List Nat} {pl : List Int} (h : HeapAt w H S P (.slice (some ⟨G, 0, none⟩) n cg) sc hp pl) (i : Nat) (hi : i < hp.length) :
    w.cell? ⟨G, i, none⟩ = some (.int .i64 (hp.getD i 0 : Nat)) := by
  have hn := heap_n h
  subst hn
  rw [h.rG.cellAt i (by omega), nats_get _ _ hi]
theorem g_lt {w : World} {H S P : Nat} {gv : Value} {sc : List Int} {hp : List Nat} {pl : List Int} (h : HeapAt w H S P gv sc hp pl) (i : Nat) (hi : i < hp.length) : hp.getD i 0 < sc.length := (h.rg _ (getD_mem _ _ hi)).2
set_option maxRecDepth 1000000 in
set_option maxHeartbeats 3200000 in
theorem up_any (w : World) (H S P G cg : Nat) (sc : List Int) (hp : List Nat) (pl : List Int) (n : Nat) (h : HeapAt w H S P (.slice (some ⟨G, 0, none⟩) n cg) sc hp pl) (i : Nat) (hi : i < hp.length) (hl : hp.length ≤ 1000) (hu : UpInv sc hp i) :
    Calls Try.prog 25 #[.pointer (some ⟨H, 0, none⟩), .int .i64 i] w fun e w' => e = .returned (.tuple #[]) ∧ UpPost w H S P G cg n sc hp w' := by
  have h0 : UpRel w H S P G cg n sc hp i w := ⟨hp, pl, h, .refl _, hi, hu, .refl _ _⟩
  clear h hu hi
  go_enter Try.func25, Try.ntmps25
  go_wp2_with fail
  go_loopw [1] (fun i wr => ∃ k : Nat, i = .int .i64 k ∧ UpRel w H S P G cg n sc hp k wr) (fun i _ => (intOf i).toNat)
  case atStart => exact ⟨i, rfl, h0⟩
  case round =>
    obtain ⟨k, rfl, hp', pl', hA, hperm, hk, hinv, hkept⟩ := hrel
    by_cases k0 : k = 0
    · subst k0
      have HE : Hid (UpPost w H S P G cg n sc hp wr) := ⟨hp', pl', hA, hperm, up_stop hinv (fun h0 => absurd h0 (by omega)), hkept⟩
      clear hA hinv
      have hd : decide (0 < (0 : Int)) = false := rfl
      go_wp2_with fail
      go_quiet (fail)
      go_wp2_with fail
      go_end0
      exact ⟨rfl, HE.out.drewN _⟩
    · obtain ⟨j, rfl⟩ : ∃ j, k = j + 1 := ⟨k - 1, by omega⟩
      have hp1 : (j + 1 - 1) / 2 = j / 2 := by simp
      have hj2 : j / 2 < hp'.length := by omega
      have hlen : hp'.length ≤ 1000 := by rw [hperm.length_eq]; exact hl
      have HN := Lib.hid (heap_n hA)
      have c1 := hA.c1
      have ci := g_get hA (j + 1) hk
      have cj := g_get hA (j / 2) hj2
      have li := g_lt hA (j + 1) hk
      have lj := g_lt hA (j / 2) hj2
      have hn1 : (j : Int) + 1 < (n : Int) := by rw [HN.out]; omega
      have hn0 : (0 : Int) ≤ (j : Int) + 1 := by omega
      have hm1 : (j : Int) / 2 < (n : Int) := by omega
      have hm0 : (0 : Int) ≤ (j : Int) / 2 := by omega
      have hm2 : ((j : Int) / 2).toNat = j / 2 := by omega
      have hm3 : ((j : Int) + 1).toNat = j + 1 := by omega
      have hw1 : IntKind.i64.wrap ((j : Int) + 1 - 1) = (j : Int) := by rw [IntWalk.i64_in _ (by omega)]; omega
      have hw2 : Int.tdiv (j : Int) 2 = (j : Int) / 2 := Int.tdiv_eq_ediv_of_nonneg (by omega)
      obtain ⟨vi, hvi⟩ : ∃ v, hp'.getD (j + 1) 0 = v := ⟨_, rfl⟩
      obtain ⟨vj, hvj⟩ : ∃ v, hp'.getD (j / 2) 0 = v := ⟨_, rfl⟩
      rw [hvi] at ci li
      rw [hvj] at cj lj
      obtain ⟨r, HR⟩ : ∃ r, Hid (aheadB (sc.getD vi 0) (sc.getD vj 0) vi vj = r) := ⟨_, rfl⟩
      have HA := Lib.hid hA
      have HINV := Lib.hid hinv
      have HVI := Lib.hid hvi
      have HVJ := Lib.hid hvj
      clear hA hinv hvi hvj
      have hd : decide (0 < j + 1) = true := by simp
      have hd' : decide ((0 : Int) < (j : Int) + 1) = true := by simp
      cases r
      · have HE : Hid (UpPost w H S P G cg n sc hp wr) := ⟨hp', pl', HA.out, hperm, up_stop HINV.out (fun h0 _ => by rw [hp1, HVI.out, HVJ.out]; exact (ahd_false sc vi vj).1 HR.out), hkept⟩
        go_wp2_with fail
        go_quiet ((go_at_call 29; exact Calls.quiet_of (ahead_is _ H S P _ sc hp' pl' (HA.out.drewN _) vi vj li lj false HR)))
        go_wp2_with fail
        go_end0
        exact ⟨rfl, HE.out.drewN _⟩
      · go_wp2_with fail
        go_quiet ((go_at_call 29; exact Calls.quiet_of (ahead_is _ H S P _ sc hp' pl' (HA.out.drewN _) vi vj li lj true HR)))
        go_wp2_with fail
        refine (swap_any (wr.drewN nq) H S P G cg sc hp' pl' n (HA.out.drewN nq) (j + 1) (j / 2) hk hj2 hlen).mono ?_
        rintro e w2 ⟨rfl, pl2, hA2, hk2⟩
        have HREL : Hid (UpRel w H S P G cg n sc hp (j / 2) w2) := by
          have hs := up_step HINV.out (by omega) hk (by rw [hp1, HVI.out, HVJ.out]; exact (ahd_iff sc vi vj).1 HR.out)
          rw [hp1] at hs
          exact ⟨_, pl2, hA2, (swapL_perm hp' _ _ hk hj2).trans hperm, by rw [swapL_len]; exact hj2, hs, (hkept.drewN nq).trans hk2⟩
        clear hA2 hk2
        go_wp2_with fail
        go_roundw
        case rel => exact ⟨j / 2, by simp, HREL.out⟩
        case measure => simp [intOf]; omega
end Go.Proofs.Ytfhbndfdlnbfpaa
