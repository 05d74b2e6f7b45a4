/- The walk of the law OrderDrains. -/
import Derived.Test.YtfhbndfdlnbfpaaOrdW
namespace Go.Proofs.Ytfhbndfdlnbfpaa
open Go.RowKit
set_option linter.unusedVariables false
structure DRel (w : World) (m : Nat) (L : List Nat) (H : Nat) (sc : List Int) (ins : List Nat) (wr : World) : Prop where
  heap : IsHeap wr L H sc ins
  be : Below w.heap.size w wr
  len : sc.length = m
theorem DRel.drewN {w : World} {m : Nat} {L : List Nat} {H : Nat} {sc : List Int} {ins : List Nat} {wr : World} (h : DRel w m L H sc ins wr) (q : Nat) : DRel w m L H sc ins (wr.drewN q) :=
  ⟨h.heap.drewN q, Below.drewN h.be q, h.len⟩
theorem rem1000 (a : Int) : ∃ r : Nat, wrap64 ((IntKind.u64.wrap a).tmod 1000) = (r : Int) ∧ r < 1000 := by
  obtain ⟨r, hr, hlt⟩ := rem_nat a 1000 (by omega) (by omega)
  have hr' : (IntKind.u64.wrap a).tmod 1000 = (r : Int) := hr
  exact ⟨r, by rw [hr', IntWalk.wrap64_in _ (by omega)], hlt⟩
/-- an element of a row that came in -/
theorem row_elem {w : World} {a : Option Addr} {len cap : Nat} {l : List Int} (h : IntRow .i64 w (.slice a len cap) l) (hl : l.length = len) {k : Nat} (hk : k < len) :
    ∃ x b off, a = some ⟨b, off, none⟩ ∧ b < w.heap.size ∧ w.cell? ⟨b, off + k, none⟩ = some (.int .i64 x) := by
  rcases h with ⟨_, _, h1, h0⟩ | ⟨b, off, cap, h1, _, _, h4, h5⟩
  · rw [h0] at hl; simp at hl; omega
  · injection h1 with h1
    exact ⟨l.getD k 0, b, off, h1, h4, h5 k (by omega)⟩
/-- one Pop more, whatever is in -/
def PopAny (w : World) (m : Nat) (L : List Nat) (H : Nat) (e : Ending) (w' : World) : Prop := ∃ t o ins sc, e = .returned (.tuple #[.int .i64 t, .bool o]) ∧ DRel w m L H sc ins w'
theorem pop_one {w wr : World} {m : Nat} {L : List Nat} {H : Nat} {sc : List Int} {ins : List Nat} (h : DRel w m L H sc ins wr) (hL : ∀ b ∈ L, w.heap.size ≤ b) :
    Calls Try.prog 15 #[.pointer (some ⟨H, 0, none⟩)] wr (PopAny w m L H) := by
  by_cases hi : ins = []
  · subst hi
    refine (hpop_none wr L H sc h.heap).mono ?_
    rintro e w' ⟨rfl, rfl⟩
    exact ⟨0, false, [], sc, rfl, h⟩
  · refine (hpop wr L H sc ins h.heap hi).mono ?_
    rintro e w' ⟨t, rfl, _, hh, hk⟩
    exact ⟨t, true, _, sc, rfl, hh, Kept.belowL h.be hk (Nat.le_refl _) hL, h.len⟩
def PushAny (w : World) (m : Nat) (L : List Nat) (H : Nat) (e : Ending) (w' : World) : Prop := ∃ ins sc, e = .returned (.tuple #[]) ∧ DRel w m L H sc ins w'
theorem push_one {w wr : World} {m : Nat} {L : List Nat} {H : Nat} {sc : List Int} {ins : List Nat} (h : DRel w m L H sc ins wr) (hL : ∀ b ∈ L, w.heap.size ≤ b) (x : Int) :
    Calls Try.prog 19 #[.pointer (some ⟨H, 0, none⟩), .int .i64 x] wr (PushAny w m L H) := by
  by_cases hx : knownB sc.length x = true ∧ x.toNat ∉ ins
  · obtain ⟨n, rfl, n1, n2⟩ := known_nat hx.1
    refine (hpush wr L H sc ins h.heap n n1 n2 (by simpa using hx.2)).mono ?_
    rintro e w' ⟨rfl, hh, hk⟩
    exact ⟨_, sc, rfl, hh, Kept.belowL h.be hk (Nat.le_refl _) hL, h.len⟩
  · refine (hpush_out wr L H sc ins h.heap x ?_).mono ?_
    · by_cases hk : knownB sc.length x = true
      · exact .inr (Classical.not_not.1 (fun hn => hx ⟨hk, hn⟩))
      · exact .inl (by simpa using hk)
    · rintro e w' ⟨rfl, q, rfl⟩
      exact ⟨ins, sc, rfl, h.drewN q⟩
def LastOk (sc : List Int) (ins : List Nat) (last k : Nat) : Prop := (last = 0 ∧ k = 0) ∨ (1 ≤ last ∧ last < sc.length ∧ ∀ u ∈ ins, ¬ ahd sc u last)
theorem score_known {sc : List Int} {v : Nat} (h1 : 1 ≤ v) (h2 : v < sc.length) : scoreI sc (v : Int) = sc.getD v 0 := by
  unfold scoreI
  rw [if_pos (by unfold knownB; exact decide_eq_true (by omega)), Int.toNat_natCast]
set_option maxRecDepth 1000000 in
set_option maxHeartbeats 6400000 in
theorem orderDrains_walk (a0 : Option Addr) (len0 cap0 : Nat) (z0 : List Int) (a1 : Option Addr) (len1 cap1 : Nat) (z1 : List Int) (w : World) (w0 : IsRow .i64 w a0 len0 cap0 z0) (w1 : IsRow .i64 w a1 len1 cap1 z1) :
    Calls Try.prog 7 #[.slice a0 len0 cap0, .slice a1 len1 cap1] w fun e w' => e = .returned (.bool true) ∧ Below w.heap.size w w' := by
  obtain ⟨l0, hrow0, hll0, _⟩ := intRow_of w0
  obtain ⟨l1, hrow1, hll1, _⟩ := intRow_of w1
  have HR0 := Lib.hid hrow0
  have HR1 := Lib.hid hrow1
  have HL0 := Lib.hid hll0
  have HL1 := Lib.hid hll1
  clear w0 w1 hrow0 hrow1 hll0 hll1
  go_enter Try.func7, Try.ntmps7
  go_wp2_with fail
  refine (popped_any _).mono ?_
  rintro e w2 ⟨rfl, hb2⟩
  by_cases hbig : 200 < len0 ∨ 100 < len1
  · rcases Nat.lt_or_ge 200 len0 with hb | hb
    · have hd : decide (200 < len0) = true := decide_eq_true hb
      go_wp2_with fail
      refine (popped_any _).mono ?_
      rintro e w3 ⟨rfl, hb3⟩
      go_wp2_with fail
      go_ret
      exact ⟨rfl, hb2.trans (hb3.mono hb2.size)⟩
    · have hd : decide (200 < len0) = false := decide_eq_false (by omega)
      have hd2 : decide (100 < len1) = true := decide_eq_true (by omega)
      go_wp2_with fail
      refine (popped_any _).mono ?_
      rintro e w3 ⟨rfl, hb3⟩
      go_wp2_with fail
      go_ret
      exact ⟨rfl, hb2.trans (hb3.mono hb2.size)⟩
  · have hd : decide (200 < len0) = false := decide_eq_false (by omega)
    have hd2 : decide (100 < len1) = false := decide_eq_false (by omega)
    have hl0 : len0 ≤ 200 := by omega
    have hl1 : len1 ≤ 100 := by omega
    clear hbig
    go_wp2_with fail
    refine (new_heap len0 w2 (by omega)).mono ?_
    rintro e w3 ⟨L, H, rfl, hh3, hL3, hb3⟩
    have HL : Hid (∀ b ∈ L, w.heap.size ≤ b) := Lib.hid (fun b hb => Nat.le_trans hb2.size (hL3 b hb))
    have HD3 : Hid (DRel w (len0 + 1) L H (List.replicate (len0 + 1) 0) (upto len0) w3) := ⟨hh3, hb2.trans (hb3.mono hb2.size), by simp⟩
    clear hh3 hL3 hb3 hb2
    go_wp2_with fail
    go_loopw [7] (fun i wr => ∃ k : Nat, i = .int .i64 k ∧ k ≤ len0 ∧ ∃ sc ins, DRel w (len0 + 1) L H sc ins wr) (fun i _ => len0 - (intOf i).toNat)
    case atStart => exact ⟨0, rfl, Nat.zero_le _, _, _, HD3.out⟩
    case round =>
      obtain ⟨k, rfl, hk, sc, ins, hR⟩ := hrel
      clear HD3
      have HR := Lib.hid hR
      clear hR
      by_cases hlt : k < len0
      · obtain ⟨x, b, off, rfl, hbw, hxc⟩ := row_elem HR0.out HL0.out hlt
        have hxr : wr.cell? ⟨b, off + k, none⟩ = some (.int .i64 x) := by rw [HR.out.be.cell (p := ⟨b, off + k, none⟩) hbw]; exact hxc
        clear hxc
        have k0 : (0 : Int) ≤ (k : Int) := by omega
        have k1 : (k : Int) < (len0 : Int) := by omega
        obtain ⟨y, hy, y1⟩ := rem1000 x
        go_wp2_with fail
        simp only [hy]
        clear hy
        refine (hbump wr L H sc _ HR.out.heap (k + 1) (by omega) (by rw [HR.out.len]; omega) (y : Int) (by omega) (by omega)).mono ?_
        rintro e w4 ⟨rfl, hh4, hk4⟩
        have HNEW : Hid (DRel w (len0 + 1) L H (bumpSc sc (k + 1) (y : Int)) ins w4) := ⟨hh4, Kept.belowL HR.out.be hk4 (Nat.le_refl _) HL.out, by rw [bumpSc_len]; exact HR.out.len⟩
        clear hh4 hk4 hxr
        go_wp2_with fail
        go_roundw
        case rel => exact ⟨k + 1, by go_num, by omega, _, _, HNEW.out⟩
        case measure => simp [intOf]; omega
      · clear HR0 HL0
        go_wp2_with fail
        go_loopw [8] (fun i wr => ∃ k : Nat, i = .int .i64 k ∧ k ≤ len1 ∧ ∃ sc ins, DRel w (len0 + 1) L H sc ins wr) (fun i _ => len1 - (intOf i).toNat)
        case atStart => exact ⟨0, rfl, Nat.zero_le _, _, _, HR.out⟩
        case round =>
          obtain ⟨k, rfl, hk, sc, ins, hR⟩ := hrel
          clear HR
          have HR := Lib.hid hR
          clear hR
          by_cases hlt1 : k < len1
          · go_wp2_with fail
            refine (pop_one HR.out HL.out).mono ?_
            rintro e w4 ⟨t, o, ins4, sc4, rfl, hR4⟩
            have HR4 := Lib.hid hR4
            clear hR4
            go_wp2_with fail
            go_roundw
            case rel => exact ⟨k + 1, by go_num, by omega, _, _, HR4.out⟩
            case measure => simp [intOf]; omega
          · go_wp2_with fail
            go_loopw [9] (fun i wr => ∃ k : Nat, i = .int .i64 k ∧ k ≤ len1 ∧ ∃ sc ins, DRel w (len0 + 1) L H sc ins wr) (fun i _ => len1 - (intOf i).toNat)
            case atStart => exact ⟨0, rfl, Nat.zero_le _, _, _, HR.out⟩
            case round =>
              obtain ⟨k, rfl, hk, sc, ins, hR⟩ := hrel
              clear HR
              have HR := Lib.hid hR
              clear hR
              by_cases hlt2 : k < len1
              · obtain ⟨x, b, off, rfl, hbw, hxc⟩ := row_elem HR1.out HL1.out hlt2
                have hxr : wr.cell? ⟨b, off + k, none⟩ = some (.int .i64 x) := by rw [HR.out.be.cell (p := ⟨b, off + k, none⟩) hbw]; exact hxc
                clear hxc
                have k0 : (0 : Int) ≤ (k : Int) := by omega
                have k1 : (k : Int) < (len1 : Int) := by omega
                go_wp2_with fail
                refine (push_one HR.out HL.out x).mono ?_
                rintro e w4 ⟨ins4, sc4, rfl, hR4⟩
                have HR4 := Lib.hid hR4
                clear hR4 hxr
                go_wp2_with fail
                go_roundw
                case rel => exact ⟨k + 1, by go_num, by omega, _, _, HR4.out⟩
                case measure => simp [intOf]; omega
              · clear HR1 HL1
                go_wp2_with fail
                refine (hlen wr L H sc ins HR.out.heap).mono ?_
                rintro e w5 ⟨rfl, rfl⟩
                obtain ⟨n, hn⟩ : ∃ n, ins.length = n := ⟨_, rfl⟩
                rw [hn]
                have HN := Lib.hid hn
                have hsh := HR.out.heap.short
                rw [hn] at hsh
                clear hn
                go_wp2_with fail
                go_loopw [11, 12] (fun a i wr => ∃ (last k : Nat) (ins' : List Nat), a = .int .i64 last ∧ i = .int .i64 k ∧ k + ins'.length = n ∧ DRel w (len0 + 1) L H sc ins' wr ∧ LastOk sc ins' last k) (fun _ i _ => n - (intOf i).toNat)
                case atStart => exact ⟨0, 0, ins, rfl, rfl, by rw [HN.out]; omega, HR.out, .inl ⟨rfl, rfl⟩⟩
                case round =>
                  obtain ⟨last, k, ins', rfl, rfl, hkn, hR, hlast⟩ := hrel
                  clear HR HN
                  have HR := Lib.hid hR
                  have HLA := Lib.hid hlast
                  clear hR hlast
                  by_cases hkl : k < n
                  · go_wp2_with fail
                    refine (hpop _ L H sc ins' HR.out.heap (by rintro rfl; simp at hkn; omega)).mono ?_
                    rintro e w6 ⟨t, rfl, ht, hh6, hk6⟩
                    have HD6 : Hid (DRel w (len0 + 1) L H sc (ins'.erase t) w6) := ⟨hh6, Kept.belowL HR.out.be hk6 (Nat.le_refl _) HL.out, HR.out.len⟩
                    have htr := HR.out.heap.rg t ht.1
                    have HT := Lib.hid ht
                    have HLN : Hid (k + 1 + (ins'.erase t).length = n) := by
                      have := List.length_erase_of_mem ht.1
                      have := List.length_pos_of_mem ht.1
                      exact Lib.hid (by omega)
                    have HLK : Hid (LastOk sc (ins'.erase t) t (k + 1)) := .inr ⟨htr.1, htr.2, fun u hu => ht.2 u (List.mem_of_mem_erase hu)⟩
                    have HHA : Hid (hasB sc (ins'.erase t) (t : Int) = false) := by
                      refine Lib.hid ?_
                      unfold hasB
                      rw [Int.toNat_natCast, Bool.and_eq_false_iff]
                      right
                      exact decide_eq_false (HR.out.heap.nodup.not_mem_erase)
                    clear hh6 hk6 ht
                    go_wp2_with fail
                    refine (hhas _ L H sc _ HD6.out.heap t false HHA).mono ?_
                    rintro e w7 ⟨rfl, m7, rfl⟩
                    rcases HLA.out with ⟨rfl, rfl⟩ | ⟨hl1', hl2', hl3'⟩
                    · go_wp2_with fail
                      go_roundw
                      case rel => exact ⟨t, 1, _, rfl, rfl, HLN.out, HD6.out.drewN m7, HLK.out⟩
                      case measure => simp [intOf]; omega
                    · have hnt := hl3' t HT.out.1
                      have HS1 := Lib.hid (score_known htr.1 htr.2)
                      have HS2 := Lib.hid (score_known hl1' hl2')
                      obtain ⟨x, hx⟩ : ∃ x, sc.getD t 0 = x := ⟨_, rfl⟩
                      obtain ⟨y, hy⟩ : ∃ y, sc.getD last 0 = y := ⟨_, rfl⟩
                      unfold ahd at hnt
                      rw [hx] at HS1 hnt
                      rw [hy] at HS2 hnt
                      have hd0 : decide ((0 : Int) < (last : Int)) = true := decide_eq_true (by omega)
                      have hd1 : decide (0 < last) = true := decide_eq_true (by omega)
                      have hd3 : decide (y < x) = false := decide_eq_false (by omega)
                      have hl3 : Hid (x = y → ¬ t < last) := Lib.hid (by omega)
                      clear hx hy hnt hl3'
                      go_wp2_with fail
                      refine (hscore _ L H sc _ (HD6.out.heap.drewN m7) t x HS1).mono ?_
                      rintro e w8 ⟨rfl, rfl⟩
                      go_wp2_with fail
                      refine (hscore _ L H sc _ (HD6.out.heap.drewN m7) last y HS2).mono ?_
                      rintro e w8 ⟨rfl, rfl⟩
                      go_wp2_with fail
                      refine (hscore _ L H sc _ (HD6.out.heap.drewN m7) t x HS1).mono ?_
                      rintro e w8 ⟨rfl, rfl⟩
                      go_wp2_with fail
                      refine (hscore _ L H sc _ (HD6.out.heap.drewN m7) last y HS2).mono ?_
                      rintro e w8 ⟨rfl, rfl⟩
                      by_cases hxy : x = y
                      · have hd4 : (x == y) = true := by simp [hxy]
                        have hd5 : decide ((t : Int) < (last : Int)) = false := decide_eq_false (by have := hl3.out hxy; omega)
                        have hd6 : decide (t < last) = false := decide_eq_false (by have := hl3.out hxy; omega)
                        clear hxy
                        go_wp2_with fail
                        go_roundw
                        case rel => exact ⟨t, k + 1, _, rfl, by go_num, HLN.out, HD6.out.drewN m7, HLK.out⟩
                        case measure => simp [intOf]; omega
                      · have hd4 : (x == y) = false := by simp [hxy]
                        clear hxy
                        go_wp2_with fail
                        go_roundw
                        case rel => exact ⟨t, k + 1, _, rfl, by go_num, HLN.out, HD6.out.drewN m7, HLK.out⟩
                        case measure => simp [intOf]; omega
                  · have hnil : ins' = [] := List.length_eq_zero_iff.1 (by omega)
                    subst hnil
                    go_wp2_with fail
                    refine (hpop_none _ L H sc HR.out.heap).mono ?_
                    rintro e w6 ⟨rfl, rfl⟩
                    go_wp2_with fail
                    refine (hlen _ L H sc _ HR.out.heap).mono ?_
                    rintro e w7 ⟨rfl, rfl⟩
                    go_wp2_with fail
                    go_ret
                    exact ⟨rfl, HR.out.be⟩
end Go.Proofs.Ytfhbndfdlnbfpaa
