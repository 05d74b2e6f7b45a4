/- The walk of the law OrderBumps. -/
import Derived.Test.YtfhbndfdlnbfpaaOrdV
namespace Go.Proofs.Ytfhbndfdlnbfpaa
open Go.RowKit
set_option linter.unusedVariables false
theorem row_alloc (w : World) (l : List Int) (n : Nat) (hn : l.length = n) (hl : n ≤ 1000) : (w.alloc (.cells (ints l).toArray 3)).ownsRow 0 3 1 (.slice (some ⟨w.heap.size, 0, none⟩) n n) n (ints l) := by
  subst hn
  refine ⟨by simp [ints], .inr ⟨w.heap.size, l.length, (ints l).toArray, rfl, Nat.zero_le _, ?_, Nat.le_refl _, by unfold maxLen; omega, by simp [ints], by simp [ints, List.take_of_length_le]⟩⟩
  show (w.heap.push _)[w.heap.size]? = _
  simp
structure BRel (w : World) (n : Nat) (L : List Nat) (H B : Nat) (sc : List Int) (k : Nat) (wr : World) : Prop where
  heap : IsHeap wr L H sc (upto n)
  row : wr.ownsRow 0 3 1 (.slice (some ⟨B, 0, none⟩) (n + 1) (n + 1)) (n + 1) (ints sc)
  be : Below w.heap.size w wr
  len : sc.length = n + 1
  bd : ∀ v, 0 ≤ sc.getD v 0 ∧ sc.getD v 0 ≤ 5000 * k
theorem BRel.drewN {w : World} {n : Nat} {L : List Nat} {H B : Nat} {sc : List Int} {k : Nat} {wr : World} (h : BRel w n L H B sc k wr) (q : Nat) : BRel w n L H B sc k (wr.drewN q) :=
  ⟨h.heap.drewN q, h.row, Below.drewN h.be q, h.len, h.bd⟩
theorem BRel.bump {w : World} {n : Nat} {L : List Nat} {H B : Nat} {sc : List Int} {k : Nat} {wr w2 : World} (h : BRel w n L H B sc k wr) (hB : B ∉ L) (hB2 : w.heap.size ≤ B) (hL : ∀ b ∈ L, w.heap.size ≤ b) (hk : k ≤ 200) {v : Nat} (h1 : 1 ≤ v) (h2 : v ≤ n) {x : Int} (x0 : 0 ≤ x) (x1 : x < 5000)
    (hh : IsHeap w2 L H (bumpSc sc v x) (upto n)) (hkept : Kept L wr w2) : BRel w n L H B (raise sc v x) (k + 1) (w2.setCell ⟨B, v, none⟩ (.int .i64 (sc.getD v 0 + x))) ∧ w2.cell? ⟨B, v, none⟩ = some (.int .i64 (sc.getD v 0)) ∧ w2.frozen? ⟨B, v, none⟩ = false := by
  have hb := h.bd v
  have e : bumpSc sc v x = raise sc v x := if_pos (by omega)
  rw [e] at hh
  have r : w2.ownsRow 0 3 1 (.slice (some ⟨B, 0, none⟩) (n + 1) (n + 1)) (n + 1) (ints sc) := row_of_block h.row (fun g hg => by cases hg; exact hkept.block _ (h.row.lt _ rfl).2 hB)
  refine ⟨⟨hh.kept (L' := [B]) ((Kept.refl [B] w2).setCell (by simp) _) (fun b hb hx => by simp at hx; subst hx; exact hB hb), ?_, ?_, by rw [raise_len, h.len], fun u => ?_⟩, ?_, r.frozenAt v⟩
  · have r2 := (r.stored v (.int .i64 (sc.getD v 0 + x))).1
    rw [ints_set] at r2
    exact r2
  · exact (Kept.belowL h.be hkept (Nat.le_refl _) hL).setCell hB2 _
  · have hu := h.bd u
    by_cases e : u = v
    · rw [e, raise_self _ _ _ (by rw [h.len]; omega)]; omega
    · rw [raise_ne _ _ _ _ e]; omega
  · rw [r.cellAt v (by omega), ints_get _ _ (by rw [h.len]; omega)]
theorem rem5000 (a : Int) : ∃ r : Nat, wrap64 ((IntKind.u64.wrap a).tmod 5000) = (r : Int) ∧ r < 5000 := by
  obtain ⟨r, hr, hlt⟩ := rem_nat a 5000 (by omega) (by omega)
  have hr' : (IntKind.u64.wrap a).tmod 5000 = (r : Int) := hr
  exact ⟨r, by rw [hr', IntWalk.wrap64_in _ (by omega)], hlt⟩
set_option maxRecDepth 1000000 in
set_option maxHeartbeats 6400000 in
theorem orderBumps_walk (a0 : Int) (a1 : Option Addr) (len1 cap1 : Nat) (z1 : List Int) (w : World) (w0 : (Lit.int .i64 a0).wf = true) (w1 : IsRow .i64 w a1 len1 cap1 z1) :
    Calls Try.prog 5 #[.int .i64 a0, .slice a1 len1 cap1] w fun e w' => e = .returned (.bool true) ∧ Below w.heap.size w w' := by
  obtain ⟨l, hrow, hll, hwf⟩ := intRow_of w1
  clear w0 w1
  obtain ⟨n, hn, n0, n1⟩ : ∃ n : Nat, wrap64 (1 + wrap64 ((IntKind.u64.wrap a0).tmod 100)) = (n : Int) ∧ 1 ≤ n ∧ n ≤ 100 := idx_nat a0 100 (by omega) (by omega)
  have HROW := Lib.hid hrow
  have HLL := Lib.hid hll
  have HWF := Lib.hid hwf
  clear hrow hll hwf
  go_enter Try.func5, Try.ntmps5
  go_wp2_with fail
  simp only [hn]
  clear hn
  refine (new_heap n w (by omega)).mono ?_
  rintro e w1 ⟨L, H, rfl, hh1, hL, hb1⟩
  have HH1 := Lib.hid hh1
  have HL := Lib.hid hL
  clear hh1 hL
  go_wp2_with fail
  refine (popped_any _).mono ?_
  rintro e w2 ⟨rfl, hb2⟩
  have HH2 := Lib.hid (HH1.out.kept (Below.kept [] hb2) (fun b _ => by simp))
  have hbe2 : Below w.heap.size w w2 := hb1.trans (hb2.mono hb1.size)
  by_cases hbig : 200 < len1
  · have hd : decide (200 < len1) = true := decide_eq_true hbig
    go_wp2_with fail
    refine (popped_any _).mono ?_
    rintro e w3 ⟨rfl, hb3⟩
    go_wp2_with fail
    go_ret
    exact ⟨rfl, hbe2.trans (hb3.mono hbe2.size)⟩
  · have hd : decide (200 < len1) = false := decide_eq_false hbig
    have hmk := mk_ints n (by omega)
    go_wp2_with fail
    clear hmk hd
    have HB0 : Hid (BRel w n L H w2.heap.size (List.replicate (n + 1) 0) 0 (w2.alloc (.cells (ints (List.replicate (n + 1) 0)).toArray 3))) :=
      ⟨HH2.out.kept (Kept.alloc (L := []) _) (fun b _ => by simp), row_alloc w2 _ (n + 1) (by simp) (by omega), hbe2.alloc hbe2.size _, by simp, fun v => by rw [rep_get]; omega⟩
    obtain ⟨B, HBB⟩ : ∃ B, Hid (w2.heap.size = B) := ⟨_, rfl⟩
    have HBL : Hid (B ∉ L) := by
      refine Lib.hid (fun hx => ?_)
      have := HH2.out.lt _ hx
      rw [HBB.out] at this
      omega
    have hB2 : w.heap.size ≤ B := by rw [← HBB.out]; exact hbe2.size
    rw [HBB.out] at HB0 ⊢
    clear HH1 HH2
    go_loopw [8] (fun i wr => ∃ k : Nat, i = .int .i64 k ∧ k ≤ len1 ∧ ∃ sc, BRel w n L H B sc k wr) (fun i _ => len1 - (intOf i).toNat)
    case atStart => exact ⟨0, rfl, Nat.zero_le _, _, HB0.out⟩
    case round =>
      obtain ⟨k, rfl, hk, sc, hR⟩ := hrel
      clear HB0
      have HR := Lib.hid hR
      clear hR
      by_cases hlt : k < len1
      · obtain ⟨x, b, off, rfl, hbw, hxc⟩ : ∃ x b off, a1 = some ⟨b, off, none⟩ ∧ b < w.heap.size ∧ w.cell? ⟨b, off + k, none⟩ = some (.int .i64 x) := by
          have hl := HLL.out
          rcases HROW.out with ⟨_, _, h1, h0⟩ | ⟨b, off, cap, h1, _, _, h4, h5⟩
          · rw [h0] at hl; simp at hl; omega
          · injection h1 with h1
            exact ⟨l.getD k 0, b, off, h1, h4, h5 k (by omega)⟩
        have hxr : wr.cell? ⟨b, off + k, none⟩ = some (.int .i64 x) := by rw [HR.out.be.cell (p := ⟨b, off + k, none⟩) hbw]; exact hxc
        clear hxc
        have k0 : (0 : Int) ≤ (k : Int) := by omega
        have k1 : (k : Int) < (len1 : Int) := by omega
        obtain ⟨v, hv, v1, v2⟩ := idx_nat x n n0 (by omega)
        obtain ⟨y, hy, y1⟩ := rem5000 (wrap64 (x.tdiv 7))
        go_wp2_with fail
        simp only [hv, hy]
        clear hv hy
        refine (hbump wr L H sc _ HR.out.heap v v1 (by rw [HR.out.len]; omega) (y : Int) (by omega) (by omega)).mono ?_
        rintro e w4 ⟨rfl, hh4, hk4⟩
        have hbd := HR.out.bd v
        have hd : decide (1099511627776 < sc.getD v 0 + (y : Int)) = false := decide_eq_false (by omega)
        rw [hd]
        obtain ⟨hnew, hc4, hf4⟩ := HR.out.bump HBL.out hB2 HL.out (by omega) v1 v2 (x := (y : Int)) (by omega) (by omega) hh4 hk4
        have HNEW := Lib.hid hnew
        obtain ⟨s0, s1⟩ := hbd
        obtain ⟨sv, hsv⟩ : ∃ sv, sc.getD v 0 = sv := ⟨_, rfl⟩
        rw [hsv] at HNEW hc4 s0 s1
        clear hnew hh4 hk4 hd hsv hxr
        have v0 : (0 : Int) ≤ (v : Int) := by omega
        have v3 : (v : Int) < (n : Int) + 1 := by omega
        have s2 : sv ≤ 1000000 := by omega
        go_wp2_with fail
        go_roundw
        case rel => exact ⟨k + 1, by go_num, by omega, _, HNEW.out⟩
        case measure => simp [intOf]; omega
      · clear HROW HLL HWF
        go_wp2_with fail
        go_loopw [11, 12] (fun at_ v wq => ∃ (p q : Nat), at_ = .int .i64 p ∧ v = .int .i64 q ∧ (1 ≤ p ∧ p ≤ n ∧ p ≤ q ∧ q ≤ n + 1) ∧ (∀ u, 1 ≤ u → u < q → sc.getD u 0 ≤ sc.getD p 0 ∧ (u < p → sc.getD u 0 < sc.getD p 0)) ∧ ∃ m, wq = wr.drewN m) (fun _ v _ => n + 1 - (intOf v).toNat)
        case atStart => exact ⟨1, 1, rfl, rfl, by omega, fun u h1 h2 => by omega, 0, rfl⟩
        case round =>
          obtain ⟨p, q, rfl, rfl, hpq, hbest, m, rfl⟩ := hrel
          have HBEST := Lib.hid hbest
          clear hbest
          by_cases hq : q ≤ n
          · have hRm := HR.out.drewN m
            obtain ⟨wm, HWM⟩ : ∃ wm, Hid (wr.drewN m = wm) := ⟨_, rfl⟩
            rw [HWM.out] at hRm ⊢
            have HRM := Lib.hid hRm
            have cq := hRm.row.cellAt q (by omega)
            rw [ints_get _ _ (by rw [hRm.len]; omega)] at cq
            have cp := hRm.row.cellAt p (by omega)
            rw [ints_get _ _ (by rw [hRm.len]; omega)] at cp
            have HSC : Hid (scoreI sc (q : Int) = sc.getD q 0) := by
              refine Lib.hid ?_
              unfold scoreI
              rw [if_pos (by unfold knownB; exact decide_eq_true (by rw [hRm.len]; omega)), Int.toNat_natCast]
            obtain ⟨xq, hxq⟩ : ∃ x, sc.getD q 0 = x := ⟨_, rfl⟩
            obtain ⟨xp, hxp⟩ : ∃ x, sc.getD p 0 = x := ⟨_, rfl⟩
            rw [hxq] at cq HSC
            rw [hxp] at cp
            have HXQ := Lib.hid hxq
            have HXP := Lib.hid hxp
            clear hRm hxq hxp
            obtain ⟨p1, p2, q1, q2⟩ := hpq
            have q0 : (0 : Int) ≤ (q : Int) := by omega
            have q3 : (q : Int) < (n : Int) + 1 := by omega
            have p0 : (0 : Int) ≤ (p : Int) := by omega
            have p3 : (p : Int) < (n : Int) + 1 := by omega
            have hne : (xq != xq) = false := by simp
            go_wp2_with fail
            go_quiet ((go_at_call 14; exact Calls.quiet_of_same (hscore _ L H sc _ (HRM.out.heap.drewN _) q xq HSC)))
            go_wp2_with fail
            obtain ⟨wn, HWN⟩ : ∃ wn, Hid (wm.drewN nq = wn) := ⟨_, rfl⟩
            have cq2 : wn.cell? ⟨B, q, none⟩ = some (.int .i64 xq) := by rw [← HWN.out]; exact cq
            have cp2 : wn.cell? ⟨B, p, none⟩ = some (.int .i64 xp) := by rw [← HWN.out]; exact cp
            rw [HWN.out]
            obtain ⟨mm, HWE⟩ : ∃ mm, Hid (wn = wr.drewN mm) := ⟨m + nq, by rw [← HWN.out, ← HWM.out, World.drewN_drewN]; exact Lib.hid rfl⟩
            clear cq cp hne
            by_cases hgt : xp < xq
            · have hd : decide (xp < xq) = true := decide_eq_true hgt
              go_quiet (fail)
              go_wp2_with fail
              go_roundw
              case rel =>
                refine ⟨q, q + 1, rfl, by go_num, by omega, fun u h1 h2 => ?_, mm + nq, by rw [HWE.out, World.drewN_drewN]⟩
                by_cases e : u = q
                · subst e; exact ⟨Int.le_refl _, fun h => by omega⟩
                · have := HBEST.out u h1 (by omega)
                  rw [HXP.out] at this
                  rw [HXQ.out]
                  omega
              case measure => simp [intOf]; omega
            · have hd : decide (xp < xq) = false := decide_eq_false hgt
              go_quiet (fail)
              go_wp2_with fail
              go_roundw
              case rel =>
                refine ⟨p, q + 1, rfl, by go_num, by omega, fun u h1 h2 => ?_, mm + nq, by rw [HWE.out, World.drewN_drewN]⟩
                by_cases e : u = q
                · subst e; rw [HXQ.out, HXP.out]; omega
                · exact HBEST.out u h1 (by omega)
              case measure => simp [intOf]; omega
          · have HTOP : Hid (IsTop sc (upto n) p) := by
              refine ⟨mem_upto.2 (by omega), fun u hu => ?_⟩
              have hu' := mem_upto.1 hu
              have := HBEST.out u (by omega) (by omega)
              unfold ahd
              omega
            go_wp2_with fail
            refine (hpop _ L H sc _ (HR.out.heap.drewN _) (by intro h0; have := congrArg List.length h0; rw [upto_len] at this; simp at this; omega)).mono ?_
            rintro e w5 ⟨t, rfl, ht, hh5, hk5⟩
            obtain rfl : t = p := isTop_unique ht HTOP.out
            have HH5 := Lib.hid hh5
            have hbe5 : Below w.heap.size w w5 := Kept.belowL (Below.drewN HR.out.be m) hk5 (Nat.le_refl _) HL.out
            have hmem := ht.1
            clear hh5 hk5 ht
            go_wp2_with fail
            refine (hhas _ L H sc _ HH5.out t false ?_).mono ?_
            · refine Lib.hid ?_
              unfold hasB
              rw [Int.toNat_natCast, Bool.and_eq_false_iff]
              right
              exact decide_eq_false ((upto_nodup n).not_mem_erase)
            rintro e w6 ⟨rfl, m6, rfl⟩
            go_wp2_with fail
            refine (hlen _ L H sc _ (HH5.out.drewN m6)).mono ?_
            rintro e w7 ⟨rfl, rfl⟩
            have hle : ((upto n).erase t).length = n - 1 := by rw [List.length_erase_of_mem hmem, upto_len]
            rw [hle]
            have hcn : ((n - 1 : Nat) : Int) = (n : Int) - 1 := by omega
            rw [hcn]
            clear hle hcn hmem
            go_wp2_with fail
            go_ret
            exact ⟨rfl, Below.drewN hbe5 m6⟩
end Go.Proofs.Ytfhbndfdlnbfpaa
