/- The document's bag: New; and the law's 'same'. -/
import Derived.Test.YtfhbndfdlnbfpaaOrdBA
namespace Go.Proofs.Ytfhbndfdlnbfpaa
open Go.RowKit
set_option linter.unusedVariables false
def innK (m k : Nat) : List Int := (List.range m).map fun v => if 1 ≤ v ∧ v ≤ k then 1 else 0
theorem innK_len (m k : Nat) : (innK m k).length = m := by simp [innK]
theorem innK_get (m k v : Nat) (h : v < m) : (innK m k).getD v 0 = if 1 ≤ v ∧ v ≤ k then 1 else 0 := by simp [innK, h]
theorem innK_zero (m : Nat) : innK m 0 = List.replicate m 0 := by
  unfold innK
  rw [List.eq_replicate_iff]
  refine ⟨by simp, fun x hx => ?_⟩
  rw [List.mem_map] at hx
  obtain ⟨v, _, rfl⟩ := hx
  rw [if_neg (by omega)]
theorem innK_succ (m k : Nat) : innK m (k + 1) = (innK m k).set (k + 1) 1 := by
  apply List.ext_getElem?
  intro v
  by_cases hv : v < m
  · by_cases e : v = k + 1
    · subst e
      simp [innK, hv]
    · rw [List.getElem?_set_ne (by omega)]
      simp only [innK, List.getElem?_map, List.getElem?_range hv, Option.map_some]
      congr 1
      by_cases c : 1 ≤ v ∧ v ≤ k
      · rw [if_pos c, if_pos (by omega)]
      · rw [if_neg c, if_neg (by omega)]
  · rw [List.getElem?_eq_none (by rw [innK_len]; omega), List.getElem?_eq_none (by rw [List.length_set, innK_len]; omega)]
theorem innK_inOf (n : Nat) : InOf (n + 1) (innK (n + 1) n) (upto n) := by
  intro v hv
  rw [innK_get _ _ _ hv]
  simp only [mem_upto]
def newB (w : World) (n S I : Nat) : World :=
  (((w.alloc (.cells (ints (List.replicate (n + 1) 0)).toArray 3)).alloc (.cells (ints (List.replicate (n + 1) 0)).toArray 3)).alloc
    (.cells #[.slice (some ⟨S, 0, none⟩) (n + 1) (n + 1), .slice (some ⟨I, 0, none⟩) (n + 1) (n + 1)] 44)).drew
theorem newB_heap (w : World) (n S I : Nat) : (newB w n S I).heap = ((w.heap.push (.cells (ints (List.replicate (n + 1) 0)).toArray 3)).push (.cells (ints (List.replicate (n + 1) 0)).toArray 3)).push
    (.cells #[.slice (some ⟨S, 0, none⟩) (n + 1) (n + 1), .slice (some ⟨I, 0, none⟩) (n + 1) (n + 1)] 44) := rfl
theorem newB_row (w : World) (n S P b : Nat) (hb : b = w.heap.size ∨ b = w.heap.size + 1) (hn : n ≤ 400) : (newB w n S P).ownsRow 0 3 1 (.slice (some ⟨b, 0, none⟩) (n + 1) (n + 1)) (n + 1) (ints (List.replicate (n + 1) 0)) := by
  refine ⟨by simp [ints], .inr ⟨b, n + 1, (ints (List.replicate (n + 1) 0)).toArray, rfl, Nat.zero_le _, ?_, Nat.le_refl _, by unfold maxLen; omega, by simp [ints], by simp [ints]⟩⟩
  rcases hb with rfl | rfl
  · rw [newB_heap]; simp only [Array.getElem?_push, Array.size_push]; rw [if_neg (by omega), if_neg (by omega), if_pos trivial]
  · rw [newB_heap]; simp only [Array.getElem?_push, Array.size_push]; rw [if_neg (by omega), if_pos trivial]
structure BagNew (w : World) (n k B : Nat) (wr : World) (S I : Nat) : Prop where
  bag : BagAt wr B S I (List.replicate (n + 1) 0) (innK (n + 1) k)
  be : Below w.heap.size w wr
  hB : w.heap.size ≤ B
  hS : w.heap.size ≤ S
  hI : w.heap.size ≤ I
theorem bag_start (w : World) (n S I : Nat) (hn : n ≤ 400) (h : (S = w.heap.size ∧ I = w.heap.size + 1) ∨ (S = w.heap.size + 1 ∧ I = w.heap.size)) : BagNew w n 0 (w.heap.size + 2) (newB w n S I) S I := by
  have hb : (newB w n S I).heap[w.heap.size + 2]? = some (.cells #[.slice (some ⟨S, 0, none⟩) (n + 1) (n + 1), .slice (some ⟨I, 0, none⟩) (n + 1) (n + 1)] 44) := by
    rw [newB_heap]; simp only [Array.getElem?_push, Array.size_push]; rw [if_pos trivial]
  have hl : (List.replicate (n + 1) (0 : Int)).length = n + 1 := by simp
  refine ⟨⟨?_, ?_, ?_, ?_, by rw [innK_len]; simp, by simp; omega, by omega, by omega, by omega⟩, ?_, by omega, by omega, by omega⟩
  · rw [hl]; simp [World.cell?, hb, go_sem]
  · rw [hl]; simp [World.cell?, hb, go_sem]
  · rw [hl]; exact newB_row w n S I S (by omega) hn
  · rw [hl, innK_zero]; exact newB_row w n S I I (by omega) hn
  · exact Below.drew ((((Below.refl w.heap.size w).alloc (Nat.le_refl _) _).alloc (by simp) _).alloc (by simp; omega) _)
def BNewPost (w : World) (n : Nat) (e : Ending) (w' : World) : Prop :=
  ∃ B S I, e = .returned (.pointer (some ⟨B, 0, none⟩)) ∧ BagNew w n n B w' S I
set_option maxRecDepth 1000000 in
set_option maxHeartbeats 3200000 in
theorem bnew (n : Nat) (w : World) (hn : n ≤ 400) : Calls Try.prog 18 #[.int .i64 n] w (BNewPost w n) := by
  have hmk := mk_ints n hn
  have n0 : (0 : Int) ≤ (n : Int) := by omega
  have n1 : (n : Int) ≤ 400 := by omega
  have HM := Lib.hid hn
  clear hn
  go_enter Try.func18, Try.ntmps18
  go_wp2_with fail
  go_region
  case' _ =>
    rw [show w.heap.size + 1 + 1 = w.heap.size + 2 from rfl]
    have HST := Lib.hid (bag_start w n w.heap.size (w.heap.size + 1) HM.out (.inl ⟨rfl, rfl⟩))
    obtain ⟨wq, HQ⟩ : ∃ wq, Hid (newB w n w.heap.size (w.heap.size + 1) = wq) := ⟨_, rfl⟩
    change Exit.then _ _ _ _ (newB w n w.heap.size (w.heap.size + 1))
  rotate_left
  case' _ =>
    rw [show w.heap.size + 1 + 1 = w.heap.size + 2 from rfl]
    have HST := Lib.hid (bag_start w n (w.heap.size + 1) w.heap.size HM.out (.inr ⟨rfl, rfl⟩))
    obtain ⟨wq, HQ⟩ : ∃ wq, Hid (newB w n (w.heap.size + 1) w.heap.size = wq) := ⟨_, rfl⟩
    change Exit.then _ _ _ _ (newB w n (w.heap.size + 1) w.heap.size)
  rotate_left
  all_goals
    rw [HQ.out] at HST ⊢
    clear HQ hmk
    obtain ⟨B, hB⟩ : ∃ B, w.heap.size + 2 = B := ⟨_, rfl⟩
    rw [hB] at HST ⊢
    clear hB
    go_wp2_with fail
    go_loopw [4] (fun i wr => ∃ k : Nat, i = .int .i64 ((k : Int) + 1) ∧ k ≤ n ∧ ∃ S I, BagNew w n k B wr S I) (fun i _ => n + 1 - (intOf i).toNat)
    case atStart => exact ⟨0, rfl, Nat.zero_le _, _, _, HST.out⟩
    case round =>
      obtain ⟨k, rfl, hk, S, I, hR⟩ := hrel
      clear HST
      have HR := Lib.hid hR
      by_cases hlt : k < n
      · have c1 := hR.bag.c1
        have fv := hR.bag.rI.frozenAt (k + 1)
        have hl : (List.replicate (n + 1) (0 : Int)).length = n + 1 := by simp
        have cv := hR.bag.getI (v := k + 1) (by rw [hl]; omega)
        rw [hl] at c1
        clear hl
        have k0 : (0 : Int) ≤ (k : Int) + 1 := by omega
        have k1 : (k : Int) + 1 < (n : Int) + 1 := by omega
        have kt : ((k : Int) + 1).toNat = k + 1 := by omega
        have HNEW : Hid (BagNew w n (k + 1) B (wr.setCell ⟨I, k + 1, none⟩ (.int .i64 1)) S I) := ⟨by rw [innK_succ]; exact hR.bag.inn (k + 1) 1, hR.be.setCell hR.hI _, hR.hB, hR.hS, hR.hI⟩
        clear hR
        go_wp2_with fail
        go_roundw
        case rel => exact ⟨k + 1, by go_num, by omega, _, _, HNEW.out⟩
        case measure => simp [intOf]; omega
      · obtain rfl : k = n := by omega
        clear hR
        go_wp2_with fail
        go_ret
        exact ⟨B, S, I, rfl, HR.out⟩
/-- one state in both -/
structure Both (w : World) (L : List Nat) (H B S I : Nat) (sc inn : List Int) (ins : List Nat) : Prop where
  heap : IsHeap w L H sc ins
  bag : BagAt w B S I sc inn
  inOf : InOf sc.length inn ins
theorem Both.drewN {w : World} {L : List Nat} {H B S I : Nat} {sc inn : List Int} {ins : List Nat} (h : Both w L H B S I sc inn ins) (q : Nat) : Both (w.drewN q) L H B S I sc inn ins := ⟨h.heap.drewN q, h.bag.drewN q, h.inOf⟩
theorem has_known {sc : List Int} {ins : List Nat} {v : Nat} (h1 : 1 ≤ v) (h2 : v < sc.length) : hasB sc ins (v : Int) = decide (v ∈ ins) := by
  unfold hasB
  rw [show knownB sc.length (v : Int) = true from by unfold knownB; exact decide_eq_true (by omega), Int.toNat_natCast, Bool.true_and]
set_option maxHeartbeats 2000000 in
theorem same_any (w : World) (L : List Nat) (H B S I : Nat) (sc inn : List Int) (ins : List Nat) (h : Both w L H B S I sc inn ins) (v : Int) :
    Calls Try.prog 23 #[.pointer (some ⟨H, 0, none⟩), .pointer (some ⟨B, 0, none⟩), .int .i64 v] w fun e w' => e = .returned (.bool true) ∧ ∃ m, w' = w.drewN m := by
  have HH := Lib.hid h
  have hz := h.bag.sz
  clear h
  go_enter Try.func23, Try.ntmps23
  go_wp2_with fail
  refine (hlen w L H sc ins HH.out.heap).mono ?_
  rintro e w1 ⟨rfl, rfl⟩
  go_wp2_with fail
  refine (blen w1 B S I sc inn ins HH.out.bag HH.out.inOf HH.out.heap.nodup HH.out.heap.rg).mono ?_
  rintro e w2 ⟨rfl, rfl⟩
  have hne : (ins.length != ins.length) = false := by simp
  have hne2 : ((ins.length : Int) != (ins.length : Int)) = false := by simp
  obtain ⟨r, hr⟩ : ∃ r, knownB sc.length v = r := ⟨_, rfl⟩
  have HR := Lib.hid hr
  clear hr
  go_wp2_with fail
  refine (bknown w2 B S I sc inn HH.out.bag v r HR).mono ?_
  rintro e w3 ⟨rfl, rfl⟩
  cases r with
  | false =>
    go_wp2_with fail
    refine (hhas w3 L H sc ins HH.out.heap v false (Lib.hid (by unfold hasB; rw [HR.out]; rfl))).mono ?_
    rintro e w4 ⟨rfl, m, rfl⟩
    go_wp2_with fail
    refine (hscore _ L H sc ins (HH.out.heap.drewN m) v 0 (Lib.hid (by unfold scoreI; rw [HR.out]; rfl))).mono ?_
    rintro e w5 ⟨rfl, rfl⟩
    go_wp2_with fail
    go_ret
    exact ⟨rfl, m, rfl⟩
  | true =>
    obtain ⟨n, rfl, n1, n2⟩ := known_nat HR.out
    have HS := Lib.hid (score_known n1 n2)
    have HHA := Lib.hid (has_known (ins := ins) n1 n2)
    have c0 := HH.out.bag.c0
    have c1 := HH.out.bag.c1
    have cs := HH.out.bag.getS n2
    have ci := HH.out.bag.getI n2
    rw [HH.out.inOf n n2] at ci
    obtain ⟨x, hx⟩ : ∃ x, sc.getD n 0 = x := ⟨_, rfl⟩
    rw [hx] at cs HS
    have n0 : (0 : Int) ≤ (n : Int) := by omega
    have n3 : (n : Int) < (sc.length : Int) := by omega
    clear hx
    by_cases hin : n ∈ ins
    · rw [if_pos hin] at ci
      have HB : Hid (hasB sc ins (n : Int) = true) := Lib.hid (by rw [HHA.out]; exact decide_eq_true hin)
      clear hin
      go_wp2_with fail
      go_quiet (first | (go_at_call 14; exact Calls.quiet_of_same (hscore _ L H sc ins (HH.out.heap.drewN _) n x HS)) | (go_at_call 16; exact Calls.quiet_of (hhas _ L H sc ins (HH.out.heap.drewN _) n true HB)))
      go_wp2_with fail
      go_ret
      exact ⟨rfl, _, rfl⟩
    · rw [if_neg hin] at ci
      have HB : Hid (hasB sc ins (n : Int) = false) := Lib.hid (by rw [HHA.out]; exact decide_eq_false hin)
      clear hin
      go_wp2_with fail
      go_quiet (first | (go_at_call 14; exact Calls.quiet_of_same (hscore _ L H sc ins (HH.out.heap.drewN _) n x HS)) | (go_at_call 16; exact Calls.quiet_of (hhas _ L H sc ins (HH.out.heap.drewN _) n false HB)))
      go_wp2_with fail
      go_ret
      exact ⟨rfl, _, rfl⟩
end Go.Proofs.Ytfhbndfdlnbfpaa
