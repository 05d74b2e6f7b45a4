/- The contract of the walk of Pop. -/
import Derived.Test.YtfhbndfdlnbfpaaOrdG
namespace Go.Proofs.Ytfhbndfdlnbfpaa
open Go.RowKit
set_option linter.unusedVariables false
theorem row_take {w : World} {G cg n : Nat} {e : TypeId} {xs ys : List Value} (h : w.ownsRow 0 e 1 (.slice (some ⟨G, 0, none⟩) n cg) n (xs ++ ys)) (m : Nat) (hm : m = xs.length) : w.ownsRow 0 e 1 (.slice (some ⟨G, 0, none⟩) m cg) m xs := by
  subst hm
  obtain ⟨hl, h⟩ := h
  rcases h with ⟨h1, _⟩ | ⟨g, cap, cur, h1, h2, h3, h4, h5, h6, h7⟩
  · cases h1
  · simp only [Value.slice.injEq, Option.some.injEq, Addr.mk.injEq, and_true, true_and] at h1
    obtain ⟨rfl, rfl⟩ := h1
    simp only [Nat.mul_one, List.length_append] at hl h7 h6
    refine ⟨by omega, .inr ⟨G, cg, cur, rfl, h2, h3, by omega, h5, by omega, ?_⟩⟩
    have := congrArg (List.take xs.length) h7
    rw [List.take_take, List.take_left' rfl, Nat.min_eq_left (by omega)] at this
    rw [Nat.mul_one]
    exact this
theorem Placed.pop {m : Nat} {hp : List Nat} {v : Nat} {pl : List Int} (h : Placed m (hp ++ [v]) pl) (hn : (hp ++ [v]).Nodup) (hv : v < m) : Placed m hp (pl.set v (-1)) := by
  have hnv : v ∉ hp := fun hx => by
    have := List.nodup_append.1 hn
    exact this.2.2 v hx v (by simp) rfl
  refine ⟨by simp [h.len], fun i hi => ?_, fun u hu hnu => ?_⟩
  · have e1 : (hp ++ [v]).getD i 0 = hp.getD i 0 := by simp [List.getElem?_append_left hi]
    have := h.at_ i (by simp; omega)
    rw [e1] at this
    have n1 : v ≠ hp.getD i 0 := fun e => hnv (e ▸ getD_mem _ _ hi)
    rw [List.getElem?_set_ne n1]
    exact this
  · by_cases e : v = u
    · subst e; rw [List.getElem?_set_self (by rw [h.len]; exact hv)]
    · rw [List.getElem?_set_ne e]
      exact h.out u hu (by simp [hnu, Ne.symm e])
theorem HeapAt.pop {w : World} {H S P G cg n : Nat} {sc : List Int} {hp : List Nat} {v : Nat} {pl : List Int} (h : HeapAt w H S P (.slice (some ⟨G, 0, none⟩) n cg) sc (hp ++ [v]) pl) :
    HeapAt ((w.setCell ⟨H, 1, none⟩ (.slice (some ⟨G, 0, none⟩) hp.length cg)).setCell ⟨P, v, none⟩ (.int .i64 (-1))) H S P (.slice (some ⟨G, 0, none⟩) hp.length cg) sc hp (pl.set v (-1)) ∧
    Kept [H, S, P, G] w ((w.setCell ⟨H, 1, none⟩ (.slice (some ⟨G, 0, none⟩) hp.length cg)).setCell ⟨P, v, none⟩ (.int .i64 (-1))) := by
  have hn := heap_n h
  subst hn
  have hv : v < sc.length := (h.rg v (by simp)).2
  refine ⟨⟨?_, ?_, ?_, by simpa using h.fr, ?_, ?_, ?_, h.pl.pop h.nd hv, (List.nodup_append.1 h.nd).1, fun u hu => h.rg u (by simp [hu]), h.sz, h.HS, h.HP, h.SP, h.GH, h.GS, h.GP⟩, ((Kept.refl _ w).setCell (by simp) _).setCell (by simp) _⟩
  · rw [cell_ne (addr_ne h.HP), cell_ne (addr_ne' (by omega))]; exact h.c0
  · rw [cell_ne (addr_ne h.HP)]; exact cell_eq h.c1
  · rw [cell_ne (addr_ne h.HP), cell_ne (addr_ne' (by omega))]; exact h.c2
  · exact row_ne (row_ne h.rS (by simpa [Value.ownBlock] using h.HS) _) (by simpa [Value.ownBlock] using h.SP) _
  · have r := h.rG
    rw [show nats (hp ++ [v]) = nats hp ++ nats [v] by simp [nats]] at r
    have r2 := row_take r hp.length (by simp [nats])
    exact row_ne (a := ⟨P, v, none⟩) (row_ne (a := ⟨H, 1, none⟩) r2 h.GH _) h.GP _
  · have r := ((row_ne h.rP (a := ⟨H, 1, none⟩) (by simpa [Value.ownBlock] using h.HP) (.slice (some ⟨G, 0, none⟩) hp.length cg)).stored v (.int .i64 (-1))).1
    rw [ints_set] at r
    exact r
theorem swapL_last (hp : List Nat) (k : Nat) (hk : hp.length = k + 1) : swapL hp 0 k = (swapL hp 0 k).take k ++ [hp.getD 0 0] := by
  have hl : (swapL hp 0 k).length = k + 1 := by rw [swapL_len, hk]
  have h1 : (swapL hp 0 k).drop k = [hp.getD 0 0] := by
    rw [List.drop_eq_getElem_cons (by omega), List.drop_of_length_le (by omega)]
    have := swapL_get hp 0 k k (by omega) (by omega)
    rw [if_pos rfl, getD_lt _ _ (by omega)] at this
    rw [this]
  conv => lhs; rw [← List.take_append_drop k (swapL hp 0 k)]
  rw [h1]
theorem pop_inv {sc : List Int} {hp : List Nat} {k : Nat} (h : HeapFrom sc hp 0) (hk : hp.length = k + 1) : DownInv sc ((swapL hp 0 k).take k) 0 0 := by
  have hl : ((swapL hp 0 k).take k).length = k := by rw [List.length_take, swapL_len, hk]; omega
  have hg : ∀ j, 0 < j → j < k → ((swapL hp 0 k).take k).getD j 0 = hp.getD j 0 := by
    intro j j0 jk
    have := swapL_get hp 0 k j (by omega) (by omega)
    rw [if_neg (by omega), if_neg (by omega)] at this
    rw [← this]
    simp [jk]
  refine ⟨Nat.le_refl _, fun j j0 jl _ jn => ?_, fun j j0 jl jp h0 => absurd h0 (by omega)⟩
  rw [hl] at jl
  rw [hg j j0 jl, hg ((j - 1) / 2) (by omega) (by omega)]
  exact h j j0 (by omega) (Nat.zero_le _)
theorem pop_empty (w : World) (H S P : Nat) (gv : Value) (sc : List Int) (pl : List Int) (h : HeapAt w H S P gv sc [] pl) :
    Calls Try.prog 15 #[.pointer (some ⟨H, 0, none⟩)] w fun e w' => e = .returned (.tuple #[.int .i64 0, .bool false]) ∧ w' = w := by
  go_enter Try.func15, Try.ntmps15
  go_wp2_with fail
  refine (len_any _ _ _ _ _ _ _ _ h).mono ?_
  rintro e w1 ⟨rfl, rfl⟩
  go_wp2_with fail
  go_ret2
  exact ⟨rfl, rfl⟩
theorem pop_nil (w : World) : Calls Try.prog 15 #[.pointer none] w fun e w' => e = .returned (.tuple #[.int .i64 0, .bool false]) ∧ w' = w := by
  go_enter Try.func15, Try.ntmps15
  go_wp2_with fail
  refine (len_nil _).mono ?_
  rintro e w1 ⟨rfl, rfl⟩
  go_wp2_with fail
  go_ret2
  exact ⟨rfl, rfl⟩
/-- what Pop leaves of a heap that has some in -/
def PopPost (w : World) (H S P G cg : Nat) (sc : List Int) (hp : List Nat) (w' : World) : Prop :=
  ∃ hp' pl', HeapAt w' H S P (.slice (some ⟨G, 0, none⟩) hp'.length cg) sc hp' pl' ∧ (hp.getD 0 0 :: hp').Perm hp ∧ HeapFrom sc hp' 0 ∧ Kept [H, S, P, G] w w'
set_option maxRecDepth 1000000 in
set_option maxHeartbeats 3200000 in
theorem pop_some (w : World) (H S P G cg n : Nat) (sc : List Int) (hp : List Nat) (pl : List Int) (h : HeapAt w H S P (.slice (some ⟨G, 0, none⟩) n cg) sc hp pl) (hh : HeapFrom sc hp 0) (k : Nat) (hk : hp.length = k + 1) (hl : hp.length ≤ 1000) :
    Calls Try.prog 15 #[.pointer (some ⟨H, 0, none⟩)] w fun e w' => e = .returned (.tuple #[.int .i64 (hp.getD 0 0 : Nat), .bool true]) ∧ PopPost w H S P G cg sc hp w' := by
  have hn := heap_n h
  rw [hk] at hn
  subst hn
  have c1 := h.c1
  have c2 := h.c2
  have c0 := g_get h 0 (by omega)
  have m0 := g_lt h 0 (by omega)
  have hsz := h.sz
  obtain ⟨v, hv⟩ : ∃ v, hp.getD 0 0 = v := ⟨_, rfl⟩
  rw [hv] at c0 m0 ⊢
  have HH := Lib.hid h
  have HV := Lib.hid hv
  have HK := Lib.hid hk
  have HF := Lib.hid hh
  clear h hv hh
  have hd : ((hp.length : Int) == 0) = false := by rw [hk]; simp; omega
  go_enter Try.func15, Try.ntmps15
  go_wp2_with fail
  refine (len_any _ _ _ _ _ _ _ _ HH.out).mono ?_
  rintro e w1 ⟨rfl, rfl⟩
  have hw : IntKind.i64.wrap ((k : Int) + 1 - 1) = (k : Int) := by rw [IntWalk.i64_in _ (by omega)]; omega
  have hz1 : (0 : Int) < (k : Int) + 1 := by omega
  go_wp2_with fail
  go_quiet (fail)
  go_wp2_with fail
  generalize hwq : w1.drewN nq = wq
  have HAQ : Hid (HeapAt wq H S P (.slice (some ⟨G, 0, none⟩) (k + 1) cg) sc hp pl) := by rw [← hwq]; exact HH.out.drewN _
  have HKQ : Hid (Kept [H, S, P, G] w1 wq) := by rw [← hwq]; exact (Kept.refl _ _).drewN _
  refine (swap_any wq H S P G cg sc hp pl (k + 1) HAQ.out 0 k (by omega) (by omega) hl).mono ?_
  rintro e w2 ⟨rfl, pl2, hA2, hk2⟩
  rw [swapL_last hp k HK.out, HV.out] at hA2
  have HP2 := Lib.hid (hA2.pop)
  have d1 := hA2.c1
  have d2 := hA2.c2
  have d3 := hA2.fr
  have d4 := pl_get hA2 m0
  have d5 := hA2.rP.frozenAt v
  have hcg : k + 1 ≤ cg := by
    rcases hA2.rG.2 with ⟨h1, _⟩ | ⟨g, cap, cur, h1, _, _, h4, _⟩
    · cases h1
    · injection h1 with _ h1 h5; omega
  have HA2 := Lib.hid hA2
  have hHP := hA2.HP
  have d6 : (w2.setCell ⟨H, 1, none⟩ (.slice (some ⟨G, 0, none⟩) k cg)).cell? ⟨P, v, none⟩ = some (.int .i64 (pl2.getD v 0)) := by rw [cell_ne (addr_ne (Ne.symm hHP))]; exact d4
  have d7 : (w2.setCell ⟨H, 1, none⟩ (.slice (some ⟨G, 0, none⟩) k cg)).cell? ⟨H, 2, none⟩ = some (.slice (some ⟨P, 0, none⟩) sc.length sc.length) := by rw [cell_ne (addr_ne' (by omega))]; exact d2
  have hlk : ((swapL hp 0 k).take k).length = k := by rw [List.length_take, swapL_len, HK.out]; omega
  rw [hlk] at HP2
  have v0 : (0 : Int) ≤ (v : Int) := by omega
  have v1 : (v : Int) < (sc.length : Int) := by omega
  clear hA2
  go_wp2_with fail
  refine (down_any _ H S P G cg sc _ _ k HP2.out.1 0 0 (Nat.zero_le _) (by omega) (pop_inv HF.out HK.out)).mono ?_
  rintro e w3 ⟨rfl, hp3, pl3, hA3, hperm3, hf3, hk3⟩
  have HE : Hid (PopPost w1 H S P G cg sc hp w3) := by
    refine ⟨hp3, pl3, ?_, ?_, hf3, ((HKQ.out.trans hk2).trans HP2.out.2).trans hk3⟩
    · have := heap_n hA3
      rw [← this]; exact hA3
    · rw [HV.out]
      have p1 := swapL_perm hp 0 k (by omega) (by omega)
      rw [swapL_last hp k HK.out, HV.out] at p1
      exact ((hperm3.cons v).trans (List.perm_append_singleton v _).symm).trans p1
  clear hA3 hperm3 hf3 hk3
  go_wp2_with fail
  go_ret2
  exact ⟨rfl, HE.out⟩
end Go.Proofs.Ytfhbndfdlnbfpaa
