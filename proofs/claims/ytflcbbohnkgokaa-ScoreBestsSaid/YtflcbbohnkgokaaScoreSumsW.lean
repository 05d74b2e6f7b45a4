/- The walks of ScoreSums and ScoreMeans: for every slice of 64-bit words each returns true and changes nothing that was there. -/
import Derived.Test.YtflcbbohnkgokaaScoS
namespace Go.Proofs.Ytflcbbohnkgokaa
open Go.RowKit
set_option linter.unusedVariables false
def flagK (j : Nat) (l : List Nat) : Bool := l.any fun x => kindN x == j
theorem flagK_snoc (j : Nat) (l : List Nat) (x : Nat) : flagK j (l ++ [x]) = (flagK j l || kindN x == j) := by simp [flagK]
theorem flags_nan (l : List Nat) (r : Nat) (hl : ∀ x ∈ l, x < 18446744073709551616) (hs : SumR l r) (h : (flagK 0 l || flagK 6 l && flagK 1 l) = true) : nan r = true := by
  rw [Bool.or_eq_true, Bool.and_eq_true] at h
  rcases h with h | ⟨h1, h2⟩
  · obtain ⟨x, hx, hk⟩ := List.any_eq_true.1 h
    exact hs.nanr ⟨x, hx, (kind_nan x (hl x hx)).1 (beq_iff_eq.1 hk)⟩
  · obtain ⟨x, hx, hk⟩ := List.any_eq_true.1 h1
    obtain ⟨y, hy, hk2⟩ := List.any_eq_true.1 h2
    have e1 := (kind_up x (hl x hx)).1 (beq_iff_eq.1 hk)
    have e2 := (kind_down y (hl y hy)).1 (beq_iff_eq.1 hk2)
    rcases hs.inf (s := false) (e1 ▸ hx) with h | h
    · exact h
    · rcases hs.inf (s := true) (e2 ▸ hy) with h' | h'
      · exact h'
      · rw [h] at h'; exact absurd h' (by decide)
theorem SumR_snoc' (l : List Nat) (y r m : Nat) (hl : l ≠ []) (h : SumR l r) (hm : AddR r y m) : SumR (l ++ [y]) m := by
  cases l with
  | nil => exact absurd rfl hl
  | cons x xs => exact SumR_snoc xs x y r h m hm
theorem take_ne (l : List Nat) (k : Nat) (h0 : ¬ k = 0) (h : k < l.length) : l.take k ≠ [] := by
  intro e
  have e := congrArg List.length e
  rw [List.length_take, List.length_nil] at e
  omega
set_option maxHeartbeats 3200000 in
theorem scoreSums_big (a : Option Addr) (cap : Nat) (l : List Nat) (w : World) (hr : IntRow .u64 w (.slice a l.length cap) (natsOf l)) (hl : ∀ x ∈ l, x < 18446744073709551616) :
    Calls Try.prog 8 #[.slice a l.length cap] w fun e w' => e = .returned (.bool true) ∧ Below w.heap.size w w' := by
  have hmax := hr.len
  rw [natsOf_length] at hmax
  unfold maxLen at hmax
  by_cases hbig : 200 < l.length
  · have hd : decide ((200 : Int) < (l.length : Int)) = true := by simp; omega
    clear hr hl
    go_enter Try.func8, Try.ntmps8
    go_wp2_with fail
    refine (told_any _).mono ?_
    rintro e w1 ⟨rfl, hb1⟩
    go_wp2_with fail
    refine (told_any _).mono ?_
    rintro e w2 ⟨rfl, hb2⟩
    go_wp2_with fail
    go_ret
    exact ⟨rfl, bthen hb1 hb2⟩
  · have hd : decide ((200 : Int) < (l.length : Int)) = false := by simp; omega
    have HR := Lib.hid hr
    have HL := Lib.hid hl
    clear hr hl
    go_enter Try.func8, Try.ntmps8
    go_wp2_with fail
    refine (told_any _).mono ?_
    rintro e w1 ⟨rfl, hb1⟩
    go_wp2_with fail
    refine (of_any 0 _ (by decide)).mono ?_
    rintro e w2 ⟨rfl, hb2⟩
    go_wp2_with fail
    go_loopw [3, 4, 5, 6, 7] (fun n u d x i wr => ∃ (k r : Nat), k ≤ l.length ∧ i = .int .i64 k ∧ x = .float .f64 r ∧ n = .bool (flagK 0 (l.take k)) ∧ u = .bool (flagK 6 (l.take k)) ∧ d = .bool (flagK 1 (l.take k)) ∧ SumR (l.take k) r ∧ r < 18446744073709551616 ∧ Below w.heap.size w wr) (fun _ _ _ _ i _ => l.length - (intOf i).toNat)
    case atStart => exact ⟨0, 0, by omega, rfl, rfl, rfl, rfl, rfl, rfl, by decide, bthen hb1 hb2⟩
    case round =>
      obtain ⟨k, r, hk, rfl, rfl, rfl, rfl, rfl, hs, hrl, hb⟩ := hrel
      have HS := Lib.hid hs
      clear hs
      by_cases hlt : k < l.length
      · obtain ⟨b, off, rfl, hbw, hcell⟩ := intRow_cells HR.out k (by rw [natsOf_length]; exact hlt)
        have hc := hcell k (by rw [natsOf_length]; exact hlt)
        rw [natsOf_getD] at hc
        have hx := getD_lt l k HL.out
        have hk6 := kind_le _ hx
        have hcr : wr.cell? ⟨b, off + k, none⟩ = some (.int .u64 (l.getD k 0 : Nat)) := by rw [hb.cell (p := ⟨b, off + k, none⟩) hbw]; exact hc
        have HT : Hid (l.take (k + 1) = l.take k ++ [l.getD k 0]) := take_snoc_nat l k hlt
        have HF0 : Hid (flagK 0 (l.take (k + 1)) = (flagK 0 (l.take k) || kindN (l.getD k 0) == 0)) := by rw [HT.out, flagK_snoc]; rfl
        have HF6 : Hid (flagK 6 (l.take (k + 1)) = (flagK 6 (l.take k) || kindN (l.getD k 0) == 6)) := by rw [HT.out, flagK_snoc]; rfl
        have HF1 : Hid (flagK 1 (l.take (k + 1)) = (flagK 1 (l.take k) || kindN (l.getD k 0) == 1)) := by rw [HT.out, flagK_snoc]; rfl
        clear hcell
        have HC := Lib.hid hc
        clear hc
        generalize hxe : l.getD k 0 = x at *
        have HXE := Lib.hid hxe
        clear hxe
        generalize hkk : kindN x = kk at *
        have HK := Lib.hid hkk
        clear hkk
        have z0 : ((kk : Int) == 0) = (kk == 0) := by rw [Bool.eq_iff_iff]; simp only [beq_iff_eq]; omega
        have z6 : ((kk : Int) == 6) = (kk == 6) := by rw [Bool.eq_iff_iff]; simp only [beq_iff_eq]; omega
        have z1 : ((kk : Int) == 1) = (kk == 1) := by rw [Bool.eq_iff_iff]; simp only [beq_iff_eq]; omega
        generalize hq0 : (kk == 0) = q0 at *
        generalize hq6 : (kk == 6) = q6 at *
        generalize hq1 : (kk == 1) = q1 at *
        clear hq0 hq6 hq1
        generalize flagK 0 (l.take k) = N at *
        generalize flagK 6 (l.take k) = U at *
        generalize flagK 1 (l.take k) = D at *
        by_cases hk0 : k = 0
        · subst hk0
          rw [Nat.add_zero] at hcr
          cases N <;> cases U <;> cases D
          all_goals
            go_wp2_with fail
            refine (rkind_is x kk _ hx HK).mono ?_
            rintro e w3 ⟨rfl, rfl⟩
            go_wp2_with fail
            refine (of_any x _ hx).mono ?_
            rintro e w3 ⟨rfl, hb3⟩
            go_wp2_with fail
            go_roundw
            case rel => exact ⟨1, x, by omega, rfl, rfl, by rw [HF0.out]; rfl, by rw [HF6.out]; rfl, by rw [HF1.out]; rfl, by rw [HT.out]; rfl, hx, bthen hb hb3⟩
            case measure => simp [intOf]; omega
        · have hke : ((k : Int) == 0) = false := by simp; omega
          cases N <;> cases U <;> cases D
          all_goals
            go_wp2_with fail
            refine (rkind_is x kk _ hx HK).mono ?_
            rintro e w3 ⟨rfl, rfl⟩
            go_wp2_with fail
            refine (of_any x _ hx).mono ?_
            rintro e w3 ⟨rfl, hb3⟩
            obtain ⟨r', m', hrun, hadd⟩ := add_run Try.prog 23 r x w3
            have HADD := Lib.hid hadd
            clear hadd
            go_wp2_with fail
            go_roundw
            case rel => exact ⟨k + 1, r', by omega, by go_num, rfl, by rw [HF0.out]; rfl, by rw [HF6.out]; rfl, by rw [HF1.out]; rfl, by rw [HT.out]; exact SumR_snoc' _ x r r' (take_ne l k hk0 hlt) HS.out HADD.out, HADD.out.1, below_drewN (bthen hb hb3) _⟩
            case measure => simp [intOf]; omega
      · obtain rfl : k = l.length := by omega
        rw [List.take_length] at HS ⊢
        have hrow := HR.out.below hb1
        have hrw := HR.out.below hb
        go_wp2_with fail
        refine (all_any a cap l _ hrw HL.out (by omega)).mono ?_
        rintro e w3 ⟨v, rfl, hrow3, hb3⟩
        go_wp2_with fail
        refine (sum_any v l _ hrow3 HL.out).mono ?_
        rintro e w4 ⟨s, rfl, hs4, hsl, hb4⟩
        have HSAME := Lib.hid (same_canon (hs4.same HS.out))
        have HFL := Lib.hid (flags_nan l s HL.out hs4)
        clear hrow hrw hrow3
        go_wp2_with fail
        refine (stext_any s _ hsl).mono ?_
        rintro e w5 ⟨rfl, hb5⟩
        rw [HSAME.out]
        go_wp2_with fail
        refine (stext_any r _ hrl).mono ?_
        rintro e w6 ⟨rfl, hb6⟩
        have hbb := bthen (bthen (bthen (bthen hb hb3) hb4) hb5) hb6
        generalize flagK 0 l = N at *
        generalize flagK 6 l = U at *
        generalize flagK 1 l = D at *
        by_cases hf : (N || U && D) = true
        · have HK0 : Hid (kindN s = 0) := (kind_nan s hsl).2 (HFL.out hf)
          cases N <;> cases U <;> cases D
          all_goals
            first
            | exact absurd hf (by decide)
            | (go_wp2_with fail
               refine (kind_is s 0 _ hsl HK0).mono ?_
               rintro e w7 ⟨rfl, rfl⟩
               go_wp2_with fail
               go_ret
               exact ⟨rfl, hbb⟩)
        · cases N <;> cases U <;> cases D
          all_goals
            first
            | exact absurd rfl hf
            | (go_wp2_with fail
               go_ret
               exact ⟨rfl, hbb⟩)
def MeanPost (l : List Nat) (w : World) (e : Ending) (w' : World) : Prop := ∃ r s, e = .returned (.float .f64 r) ∧ SumR l s ∧ DivR s (floatOfInt .f64 l.length) r ∧ Below w.heap.size w w'
theorem mean_any (v : Value) (l : List Nat) (w : World) (hr : ValRow w v (floVals l)) (hl : ∀ x ∈ l, x < 18446744073709551616) :
    Calls Try.prog 27 #[v] w (MeanPost l w) := by
  obtain ⟨a, cap, hv⟩ := hr.shape
  rw [floVals_length] at hv
  subst hv
  have HR := Lib.hid hr
  have HL := Lib.hid hl
  clear hr hl
  go_enter Try.func27, Try.ntmps27
  go_wp2_with fail
  refine (sum_any _ l _ HR.out HL.out).mono ?_
  rintro e w1 ⟨s, rfl, hs, hsl, hb1⟩
  obtain ⟨r, m, hrun, hdiv⟩ := div_run Try.prog 23 s (floatOfInt .f64 l.length) w1
  have HD := Lib.hid hdiv
  clear hdiv
  go_wp2_with fail
  go_ret
  exact ⟨r, s, rfl, hs, HD.out, below_drewN hb1 _⟩
theorem mean_none (r s : Nat) (hs : SumR [] s) (h : DivR s (floatOfInt .f64 ((([] : List Nat).length : Nat) : Int)) r) : nan r = true := by
  cases hs
  rcases h.2 with h | h
  · have : Ieee.double.div 0 (floatOfInt .f64 ((([] : List Nat).length : Nat) : Int)) = none := by decide +kernel
    rw [this] at h; cases h
  · exact h.2
set_option maxHeartbeats 1600000 in
theorem scoreMeans_big (a : Option Addr) (cap : Nat) (l : List Nat) (w : World) (hr : IntRow .u64 w (.slice a l.length cap) (natsOf l)) (hl : ∀ x ∈ l, x < 18446744073709551616) :
    Calls Try.prog 9 #[.slice a l.length cap] w fun e w' => e = .returned (.bool true) ∧ Below w.heap.size w w' := by
  have hmax := hr.len
  rw [natsOf_length] at hmax
  unfold maxLen at hmax
  by_cases hbig : 200 < l.length
  · have hd : decide ((200 : Int) < (l.length : Int)) = true := by simp; omega
    clear hr hl
    go_enter Try.func9, Try.ntmps9
    go_wp2_with fail
    refine (told_any _).mono ?_
    rintro e w1 ⟨rfl, hb1⟩
    go_wp2_with fail
    refine (told_any _).mono ?_
    rintro e w2 ⟨rfl, hb2⟩
    go_wp2_with fail
    go_ret
    exact ⟨rfl, bthen hb1 hb2⟩
  · have hd : decide ((200 : Int) < (l.length : Int)) = false := by simp; omega
    have HR := Lib.hid hr
    have HL := Lib.hid hl
    clear hr hl
    by_cases h0 : l = []
    · subst h0
      go_enter Try.func9, Try.ntmps9
      go_wp2_with fail
      refine (told_any _).mono ?_
      rintro e w1 ⟨rfl, hb1⟩
      go_wp2_with fail
      refine (all_any a cap [] _ (HR.out.below hb1) HL.out (by simp)).mono ?_
      rintro e w3 ⟨v, rfl, hrow3, hb3⟩
      go_wp2_with fail
      refine (mean_any v [] _ hrow3 HL.out).mono ?_
      rintro e w4 ⟨r, s, rfl, hs4, hdiv, hb4⟩
      have hrl := hdiv.1
      have HK : Hid (kindN r = 0) := (kind_nan r hrl).2 (mean_none r s hs4 hdiv)
      clear hrow3 hdiv
      go_wp2_with fail
      refine (kind_is r 0 _ hrl HK).mono ?_
      rintro e w5 ⟨rfl, rfl⟩
      go_wp2_with fail
      go_ret
      exact ⟨rfl, bthen (bthen hb1 hb3) hb4⟩
    · have hne : ((l.length : Int) == 0) = false := by
        have : l.length ≠ 0 := fun e => h0 (List.length_eq_zero_iff.1 e)
        simp; omega
      go_enter Try.func9, Try.ntmps9
      go_wp2_with fail
      refine (told_any _).mono ?_
      rintro e w1 ⟨rfl, hb1⟩
      go_wp2_with fail
      refine (all_any a cap l _ (HR.out.below hb1) HL.out (by omega)).mono ?_
      rintro e w3 ⟨v, rfl, hrow3, hb3⟩
      go_wp2_with fail
      refine (mean_any v l _ hrow3 HL.out).mono ?_
      rintro e w4 ⟨r, s, rfl, hs4, hdiv, hb4⟩
      have hrl := hdiv.1
      clear hrow3
      have HDIV := Lib.hid hdiv
      have HS4 := Lib.hid hs4
      clear hdiv hs4
      go_wp2_with fail
      refine (stext_any r _ hrl).mono ?_
      rintro e w5 ⟨rfl, hb5⟩
      go_wp2_with fail
      refine (all_any a cap l _ (HR.out.below (bthen (bthen (bthen hb1 hb3) hb4) hb5)) HL.out (by omega)).mono ?_
      rintro e w6 ⟨v2, rfl, hrow6, hb6⟩
      go_wp2_with fail
      refine (sum_any v2 l _ hrow6 HL.out).mono ?_
      rintro e w7 ⟨s2, rfl, hs7, hsl7, hb7⟩
      obtain ⟨r2, m, hrun, hdiv2⟩ := div_run Try.prog 23 s2 (floatOfInt .f64 l.length) w7
      have hr2 := hdiv2.1
      have HSAME := Lib.hid (same_canon (HDIV.out.same hdiv2 (HS4.out.same hs7)))
      clear hdiv2 hrow6 hs7
      rw [HSAME.out]
      go_wp2_with fail
      refine (stext_any r2 _ hr2).mono ?_
      rintro e w8 ⟨rfl, hb8⟩
      go_wp2_with fail
      go_ret
      exact ⟨rfl, bthen (below_drewN (bthen (bthen (bthen (bthen (bthen hb1 hb3) hb4) hb5) hb6) hb7) m) hb8⟩
theorem nats_of_row {w : World} {a : Option Addr} {len cap : Nat} {z : List Int} (h : IsRow .u64 w a len cap z) : ∃ l : List Nat, l.length = len ∧ IntRow .u64 w (.slice a l.length cap) (natsOf l) ∧ ∀ x ∈ l, x < 18446744073709551616 := by
  obtain ⟨l, hr, hlen, hwf⟩ := intRow_of h
  obtain ⟨ln, rfl⟩ : ∃ ln : List Nat, l = natsOf ln := by
    refine ⟨l.map Int.toNat, ?_⟩
    unfold natsOf
    rw [List.map_map]
    symm
    conv => rhs; rw [← List.map_id l]
    apply List.map_congr_left
    intro x hx
    have := bounds_u64 (hwf x hx)
    simp; omega
  rw [natsOf_length] at hlen
  refine ⟨ln, hlen, by rw [hlen]; exact hr, fun x hx => ?_⟩
  have := bounds_u64 (hwf x (List.mem_map.2 ⟨x, hx, rfl⟩))
  omega
theorem scoreSums_walk (a0 : Option Addr) (len0 cap0 : Nat) (z0 : List Int) (w : World) (w0 : IsRow .u64 w a0 len0 cap0 z0) :
    Calls Try.prog 8 #[.slice a0 len0 cap0] w fun e w' => e = .returned (.bool true) ∧ Below w.heap.size w w' := by
  obtain ⟨l, rfl, hr, hl⟩ := nats_of_row w0
  exact scoreSums_big a0 cap0 l w hr hl
theorem scoreMeans_walk (a0 : Option Addr) (len0 cap0 : Nat) (z0 : List Int) (w : World) (w0 : IsRow .u64 w a0 len0 cap0 z0) :
    Calls Try.prog 9 #[.slice a0 len0 cap0] w fun e w' => e = .returned (.bool true) ∧ Below w.heap.size w w' := by
  obtain ⟨l, rfl, hr, hl⟩ := nats_of_row w0
  exact scoreMeans_big a0 cap0 l w hr hl
end Go.Proofs.Ytflcbbohnkgokaa
