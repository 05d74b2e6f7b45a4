/- The walk of the law OrderPlays. -/
import Derived.Test.YtfhbndfdlnbfpaaOrdBB
namespace Go.Proofs.Ytfhbndfdlnbfpaa
open Go.RowKit
set_option linter.unusedVariables false
/-- a slice of what may be done, as it came in: of each its three numbers -/
def OpsAt (w : World) (a : Option Addr) (len : Nat) : Prop := len ≤ maxLen ∧ ∀ i, i < len → ∃ (b off : Nat) (x y z : Int), a = some ⟨b, off, none⟩ ∧ b < w.heap.size ∧
  w.cell? ⟨b, off + i * 3, none⟩ = some (.int .i64 x) ∧ w.cell? ⟨b, off + i * 3 + 1, none⟩ = some (.int .i64 y) ∧ w.cell? ⟨b, off + i * 3 + 2, none⟩ = some (.int .i64 z)
structure PRel (w : World) (n : Nat) (L : List Nat) (H B S I : Nat) (wr : World) : Prop where
  both : ∃ sc inn ins, Both wr L H B S I sc inn ins ∧ sc.length = n + 1
  be : Below w.heap.size w wr
theorem PRel.drewN {w : World} {n : Nat} {L : List Nat} {H B S I : Nat} {wr : World} (h : PRel w n L H B S I wr) (q : Nat) : PRel w n L H B S I (wr.drewN q) := by
  obtain ⟨⟨sc, inn, ins, h1, h2⟩, h3⟩ := h
  exact ⟨⟨sc, inn, ins, h1.drewN q, h2⟩, Below.drewN h3 q⟩
theorem PRel.alloc {w : World} {n : Nat} {L : List Nat} {H B S I : Nat} {wr : World} (h : PRel w n L H B S I wr) (o : Obj) : PRel w n L H B S I (wr.alloc o) := by
  obtain ⟨⟨sc, inn, ins, h1, h2⟩, h3⟩ := h
  exact ⟨⟨sc, inn, ins, ⟨h1.heap.kept (Kept.alloc (L := []) _) (fun b _ => by simp), h1.bag.kept (Kept.alloc (L := []) _) (by simp) (by simp) (by simp), h1.inOf⟩, h2⟩, h3.alloc h3.size _⟩
/-- the blocks of the heap and of the bag are new, and no block is of both -/
structure Apart (w : World) (L : List Nat) (B S I : Nat) : Prop where
  hL : ∀ b ∈ L, w.heap.size ≤ b
  hB : w.heap.size ≤ B
  hS : w.heap.size ≤ S
  hI : w.heap.size ≤ I
  nB : B ∉ L
  nS : S ∉ L
  nI : I ∉ L
def pushIns (m : Nat) (ins : List Nat) (v : Int) : List Nat := if knownB m v = true ∧ v.toNat ∉ ins then v.toNat :: ins else ins
theorem pushAny (w : World) (L : List Nat) (H : Nat) (sc : List Int) (ins : List Nat) (h : IsHeap w L H sc ins) (v : Int) :
    Calls Try.prog 19 #[.pointer (some ⟨H, 0, none⟩), .int .i64 v] w fun e w' => e = .returned (.tuple #[]) ∧ IsHeap w' L H sc (pushIns sc.length ins v) ∧ Kept L w w' := by
  by_cases hx : knownB sc.length v = true ∧ v.toNat ∉ ins
  · unfold pushIns
    rw [if_pos hx]
    obtain ⟨n, rfl, n1, n2⟩ := known_nat hx.1
    refine (hpush w L H sc ins h n n1 n2 (by simpa using hx.2)).mono ?_
    rintro e w' ⟨rfl, hh, hk⟩
    exact ⟨rfl, by simpa using hh, hk⟩
  · unfold pushIns
    rw [if_neg hx]
    refine (hpush_out w L H sc ins h v ?_).mono ?_
    · by_cases hk : knownB sc.length v = true
      · exact .inr (Classical.not_not.1 (fun hn => hx ⟨hk, hn⟩))
      · exact .inl (by simpa using hk)
    · rintro e w' ⟨rfl, q, rfl⟩
      exact ⟨rfl, h.drewN q, (Kept.refl _ _).drewN q⟩
theorem pushIns_out {m : Nat} {ins : List Nat} {v : Int} (h : knownB m v = false) : pushIns m ins v = ins := by
  unfold pushIns; rw [if_neg (by rw [h]; simp)]
theorem pushIns_inOf {m : Nat} {inn : List Int} {ins : List Nat} (h : InOf m inn ins) (hl : inn.length = m) {v : Nat} (h1 : 1 ≤ v) (h2 : v < m) : InOf m (inn.set v 1) (pushIns m ins (v : Int)) := by
  have hk : knownB m (v : Int) = true := by unfold knownB; exact decide_eq_true (by omega)
  unfold pushIns
  rw [Int.toNat_natCast]
  by_cases hv : v ∈ ins
  · rw [if_neg (by simp [hv])]
    intro u hu
    by_cases e : u = v
    · subst e; simp [hl, hu, hv]
    · have e2 : (inn.set v 1).getD u 0 = inn.getD u 0 := by simp [Ne.symm e]
      rw [e2]; exact h u hu
  · rw [if_pos ⟨hk, hv⟩]
    exact h.inn hl h2
def BOk (m : Nat) (v b : Int) : Prop := knownB m v = true ∧ 0 ≤ b ∧ b ≤ 1099511627776
open Classical in
noncomputable def bumpS (sc : List Int) (v b : Int) : List Int := if BOk sc.length v b then bumpSc sc v.toNat b else sc
open Classical in
noncomputable def bumpR (sc : List Int) (v b : Int) : Bool := if BOk sc.length v b then decide (1099511627776 < sc.getD v.toNat 0 + b) else false
theorem bumpS_len (sc : List Int) (v b : Int) : (bumpS sc v b).length = sc.length := by
  unfold bumpS; split
  · exact bumpSc_len _ _ _
  · rfl
theorem not_bOk {m : Nat} {v b : Int} (h : ¬ BOk m v b) : knownB m v = false ∨ b < 0 ∨ 1099511627776 < b := by
  unfold BOk at h
  by_cases hk : knownB m v = true
  · right
    apply Classical.byContradiction
    intro hn
    exact h ⟨hk, by omega, by omega⟩
  · exact .inl (by simpa using hk)
theorem hbumpAny (w : World) (L : List Nat) (H : Nat) (sc : List Int) (ins : List Nat) (h : IsHeap w L H sc ins) (v b : Int) (r : Bool) (HR : Hid (bumpR sc v b = r)) :
    Calls Try.prog 13 #[.pointer (some ⟨H, 0, none⟩), .int .i64 v, .int .i64 b] w fun e w' => e = .returned (.bool r) ∧ IsHeap w' L H (bumpS sc v b) ins ∧ Kept L w w' := by
  have hr := HR.out
  unfold bumpR at hr
  unfold bumpS
  by_cases hx : BOk sc.length v b
  · rw [if_pos hx] at hr ⊢
    obtain ⟨n, rfl, n1, n2⟩ := known_nat hx.1
    rw [Int.toNat_natCast] at hr ⊢
    rw [← hr]
    exact hbump w L H sc ins h n n1 n2 b hx.2.1 hx.2.2
  · rw [if_neg hx] at hr ⊢
    rw [← hr]
    refine (hbump_out w L H sc ins h v b (not_bOk hx)).mono ?_
    rintro e w' ⟨rfl, rfl⟩
    exact ⟨rfl, h, Kept.refl _ _⟩
theorem bbumpAny (w : World) (B S I : Nat) (sc inn : List Int) (h : BagAt w B S I sc inn) (hok : ScOk sc) (v b : Int) (r : Bool) (HR : Hid (bumpR sc v b = r)) :
    Calls Try.prog 22 #[.pointer (some ⟨B, 0, none⟩), .int .i64 v, .int .i64 b] w fun e w' => e = .returned (.bool r) ∧ BagAt w' B S I (bumpS sc v b) inn ∧ Kept [S] w w' := by
  have hr := HR.out
  unfold bumpR at hr
  unfold bumpS
  by_cases hx : BOk sc.length v b
  · rw [if_pos hx] at hr ⊢
    obtain ⟨n, rfl, n1, n2⟩ := known_nat hx.1
    rw [Int.toNat_natCast] at hr ⊢
    rw [← hr]
    exact bbump w B S I sc inn h hok n n1 n2 b hx.2.1 hx.2.2
  · rw [if_neg hx] at hr ⊢
    rw [← hr]
    refine (bbump_out w B S I sc inn h v b (not_bOk hx)).mono ?_
    rintro e w' ⟨rfl, rfl⟩
    exact ⟨rfl, h, Kept.refl _ _⟩
def popT (ins : List Nat) (t : Nat) : Prop := (ins = [] ∧ t = 0) ∨ t ∈ ins
def PopAll (w : World) (L : List Nat) (H : Nat) (sc : List Int) (ins : List Nat) (e : Ending) (w' : World) : Prop :=
  (ins = [] ∧ e = .returned (.tuple #[.int .i64 0, .bool false]) ∧ w' = w) ∨ (∃ t, e = .returned (.tuple #[.int .i64 (t : Nat), .bool true]) ∧ IsTop sc ins t ∧ IsHeap w' L H sc (ins.erase t) ∧ Kept L w w')
theorem popAll (w : World) (L : List Nat) (H : Nat) (sc : List Int) (ins : List Nat) (h : IsHeap w L H sc ins) :
    Calls Try.prog 15 #[.pointer (some ⟨H, 0, none⟩)] w (PopAll w L H sc ins) := by
  by_cases hi : ins = []
  · subst hi
    refine (hpop_none w L H sc h).mono ?_
    rintro e w' ⟨rfl, rfl⟩
    exact .inl ⟨rfl, rfl, rfl⟩
  · refine (hpop w L H sc ins h hi).mono ?_
    rintro e w' ⟨t, rfl, ht, hh, hk⟩
    exact .inr ⟨t, rfl, ht, hh, hk⟩
/-- a cell of a block of neither -/
theorem Kept.cellO {L : List Nat} {w w' : World} (h : Kept L w w') {O o : Nat} (hO : O < w.heap.size) (hn : O ∉ L) : w'.cell? ⟨O, o, none⟩ = w.cell? ⟨O, o, none⟩ := World.cell?_of_block (w := w) (a := ⟨O, o, none⟩) (h.block O hO hn)
set_option maxRecDepth 1000000 in
set_option maxHeartbeats 6400000 in
theorem orderPlays_walk (a0 : Int) (w0 : (Lit.int .i64 a0).wf = true) (a1 : Option Addr) (len1 cap1 : Nat) (w : World) (w1 : OpsAt w a1 len1) :
    Calls Try.prog 6 #[.int .i64 a0, .slice a1 len1 cap1] w fun e w' => e = .returned (.bool true) ∧ Below w.heap.size w w' := by
  have HO := Lib.hid w1
  clear w1 w0
  go_enter Try.func6, Try.ntmps6
  go_wp2_with fail
  refine (popped_any _).mono ?_
  rintro e w2 ⟨rfl, hb2⟩
  by_cases hbig : 300 < len1
  · have hd : decide (300 < len1) = true := decide_eq_true hbig
    go_wp2_with fail
    refine (popped_any _).mono ?_
    rintro e w3 ⟨rfl, hb3⟩
    go_wp2_with fail
    go_ret
    exact ⟨rfl, hb2.trans (hb3.mono hb2.size)⟩
  · have hd : decide (300 < len1) = false := decide_eq_false hbig
    by_cases hr : a0 < 0 ∨ 400 < a0
    · go_wp2_with fail
      refine (new_range a0 w2 hr).mono ?_
      rintro e w3 ⟨rfl, rfl⟩
      rcases Int.lt_or_le a0 0 with h0 | h0
      · have hd0 : decide (a0 < 0) = true := decide_eq_true h0
        go_wp2_with fail
        go_ret
        exact ⟨rfl, hb2⟩
      · have hd0 : decide (a0 < 0) = false := decide_eq_false (by omega)
        have hd1 : decide (400 < a0) = true := decide_eq_true (by omega)
        go_wp2_with fail
        go_ret
        exact ⟨rfl, hb2⟩
    · obtain ⟨n, rfl⟩ : ∃ n : Nat, a0 = n := ⟨a0.toNat, by omega⟩
      have hn : n ≤ 400 := by omega
      have hd0 : decide ((n : Int) < 0) = false := decide_eq_false (by omega)
      have hd1 : decide (400 < (n : Int)) = false := decide_eq_false (by omega)
      have hd2 : decide (400 < n) = false := decide_eq_false (by omega)
      clear hr
      go_wp2_with fail
      refine (new_heap n w2 hn).mono ?_
      rintro e w3 ⟨L, H, rfl, hh3, hL3, hb3⟩
      have HH3 := Lib.hid hh3
      clear hh3
      go_wp2_with fail
      refine (bnew n w3 hn).mono ?_
      rintro e w4 ⟨B, S, I, rfl, hbag⟩
      have HAP : Hid (Apart w L B S I) := by
        have h1 := hb2.size
        have h2 := hb3.size
        have hlt := HH3.out.lt
        exact Lib.hid ⟨fun b hb => Nat.le_trans h1 (hL3 b hb), by have := hbag.hB; omega, by have := hbag.hS; omega, by have := hbag.hI; omega,
          fun hx => by have := hlt _ hx; have := hbag.hB; omega, fun hx => by have := hlt _ hx; have := hbag.hS; omega, fun hx => by have := hlt _ hx; have := hbag.hI; omega⟩
      have HP4 : Hid (PRel w n L H B S I w4) := by
        refine Lib.hid ⟨⟨_, _, _, ⟨HH3.out.kept (Below.kept [] hbag.be) (fun b _ => by simp), hbag.bag, ?_⟩, by simp⟩, (hb2.trans (hb3.mono hb2.size)).trans (hbag.be.mono (Nat.le_trans hb2.size hb3.size))⟩
        rw [List.length_replicate]; exact innK_inOf n
      clear HH3 hbag hb2 hb3 hL3
      go_wp2_with fail
      go_loopw [8] (fun i wr => ∃ k : Nat, i = .int .i64 k ∧ k ≤ len1 ∧ PRel w n L H B S I wr) (fun i _ => len1 - (intOf i).toNat)
      case atStart => exact ⟨0, rfl, Nat.zero_le _, HP4.out⟩
      case round =>
        obtain ⟨k, rfl, hk, hR⟩ := hrel
        clear HP4
        have HR := Lib.hid hR
        clear hR
        by_cases hlt : k < len1
        · obtain ⟨b, off, x, y, z, rfl, hbw, hx, hy, hz⟩ := HO.out.2 k hlt
          have hxr : wr.cell? ⟨b, off + k * 3, none⟩ = some (.int .i64 x) := by rw [HR.out.be.cell (p := ⟨b, off + k * 3, none⟩) hbw]; exact hx
          have hyr : wr.cell? ⟨b, off + k * 3 + 1, none⟩ = some (.int .i64 y) := by rw [HR.out.be.cell (p := ⟨b, off + k * 3 + 1, none⟩) hbw]; exact hy
          have hzr : wr.cell? ⟨b, off + k * 3 + 2, none⟩ = some (.int .i64 z) := by rw [HR.out.be.cell (p := ⟨b, off + k * 3 + 2, none⟩) hbw]; exact hz
          clear hx hy hz
          have k0 : (0 : Int) ≤ (k : Int) := by omega
          have k1 : (k : Int) < (len1 : Int) := by omega
          have hdk : decide (k < len1) = true := decide_eq_true hlt
          have HPA := Lib.hid (HR.out.alloc (.cells #[.int .i64 x, .int .i64 y, .int .i64 z] 41))
          have hcy : (wr.alloc (.cells #[.int .i64 x, .int .i64 y, .int .i64 z] 41)).cell? ⟨wr.heap.size, 1, none⟩ = some (.int .i64 y) := by simp [go_sem]
          have hcz : (wr.alloc (.cells #[.int .i64 x, .int .i64 y, .int .i64 z] 41)).cell? ⟨wr.heap.size, 2, none⟩ = some (.int .i64 z) := by simp [go_sem]
          obtain ⟨wa, HWA⟩ : ∃ wa, Hid (wr.alloc (.cells #[.int .i64 x, .int .i64 y, .int .i64 z] 41) = wa) := ⟨_, rfl⟩
          obtain ⟨O, HOO⟩ : ∃ O, Hid (wr.heap.size = O) := ⟨_, rfl⟩
          rw [HWA.out, HOO.out] at hcy hcz
          rw [HWA.out] at HPA
          have hOw : O < wa.heap.size := lt_of_cell hcy
          obtain ⟨sc, inn, ins, hbo, hscl⟩ := HPA.out.both
          have HBO := Lib.hid hbo
          have HOL : Hid (O ∉ L ∧ O ≠ B ∧ O ≠ S ∧ O ≠ I) := by
            obtain ⟨_, _, _, hbo', _⟩ := HR.out.both
            have h1 := hbo'.heap.lt
            have h2 := hbo'.bag.lt
            have h3 := HOO.out
            exact Lib.hid ⟨fun hx => by have := h1 _ hx; omega, by omega, by omega, by omega⟩
          have HW9 := HPA.out.be
          have HBE := Lib.hid HW9
          have HSL := Lib.hid hscl
          clear hbo hscl HW9
          by_cases x1 : x = 1
          · subst x1
            go_wp2_with fail
            rw [HWA.out, HOO.out]
            refine (pushAny wa L H sc ins HBO.out.heap y).mono ?_
            rintro e w5 ⟨rfl, hh5, hk5⟩
            have HH5 := Lib.hid hh5
            have HK5 := Lib.hid hk5
            have hcy5 : w5.cell? ⟨O, 1, none⟩ = some (.int .i64 y) := by rw [hk5.cellO hOw HOL.out.1]; exact hcy
            have hbag5 := HBO.out.bag.kept hk5 HAP.out.nB HAP.out.nS HAP.out.nI
            have HBG5 := Lib.hid hbag5
            obtain ⟨r, hr⟩ : ∃ r, knownB sc.length y = r := ⟨_, rfl⟩
            have HRR := Lib.hid hr
            clear hh5 hk5 hr hbag5
            go_wp2_with fail
            refine (bknown w5 B S I sc inn HBG5.out y r HRR).mono ?_
            rintro e w6 ⟨rfl, rfl⟩
            cases r with
            | false =>
              have HP9 : Hid (PRel w n L H B S I w6) := ⟨⟨sc, inn, ins, ⟨by rw [← pushIns_out (ins := ins) HRR.out]; exact HH5.out, HBG5.out, HBO.out.inOf⟩, HSL.out⟩, Kept.belowL HBE.out HK5.out (Nat.le_refl _) HAP.out.hL⟩
              obtain ⟨sc9, inn9, ins9, hB9, _⟩ := HP9.out.both
              have HB9 := Lib.hid hB9
              clear hB9
              go_wp2_with fail
              refine (same_any _ L H B S I sc9 inn9 ins9 HB9.out y).mono ?_
              rintro e w10 ⟨rfl, m10, rfl⟩
              go_wp2_with fail
              go_roundw
              case rel => exact ⟨k + 1, by go_num, by omega, HP9.out.drewN m10⟩
              case measure => simp [intOf]; omega
            | true =>
              obtain ⟨v, rfl, v1, v2⟩ := known_nat HRR.out
              have c1 := HBG5.out.c1
              have cv := HBG5.out.getI v2
              have fv := HBG5.out.rI.frozenAt v
              have v0 : (0 : Int) ≤ (v : Int) := by omega
              have v3 : (v : Int) < (sc.length : Int) := by omega
              have hzz := HBG5.out.sz
              have HP9 : Hid (PRel w n L H B S I ((w6.setCell ⟨I, v, none⟩ (.int .i64 1)).drewN 1)) := by
                refine PRel.drewN (wr := w6.setCell ⟨I, v, none⟩ (.int .i64 1)) ⟨⟨sc, inn.set v 1, _, ⟨HH5.out.kept (L' := [I]) ((Kept.refl _ _).setCell (by simp) _) (fun b hb => by rw [List.mem_singleton]; rintro rfl; exact HAP.out.nI hb), HBG5.out.inn v 1, pushIns_inOf HBO.out.inOf HBO.out.bag.len v1 v2⟩, HSL.out⟩, ?_⟩ 1
                exact (Kept.belowL HBE.out HK5.out (Nat.le_refl _) HAP.out.hL).setCell HAP.out.hI _
              have hcy9 : ((w6.setCell ⟨I, v, none⟩ (.int .i64 1)).drewN 1).cell? ⟨O, 1, none⟩ = some (.int .i64 (v : Int)) := by
                rw [World.cell?_drewN, cell_ne (addr_ne HOL.out.2.2.2.symm)]; exact hcy5
              go_wp2_with fail
              go_region
              obtain ⟨w9, HW9⟩ : ∃ w9, Hid ((w6.setCell ⟨I, v, none⟩ (.int .i64 1)).drewN 1 = w9) := ⟨_, rfl⟩
              have hdr : (w6.setCell ⟨I, v, none⟩ (.int .i64 1)).drew = w9 := HW9.out
              rw [HW9.out] at HP9 hcy9
              rw [hdr]
              clear hdr
              obtain ⟨y, hy⟩ : ∃ y : Int, (v : Int) = y := ⟨_, rfl⟩
              rw [hy] at hcy9
              clear c1 cv fv
              obtain ⟨sc9, inn9, ins9, hB9, _⟩ := HP9.out.both
              have HB9 := Lib.hid hB9
              clear hB9
              go_wp2_with fail
              refine (same_any _ L H B S I sc9 inn9 ins9 HB9.out y).mono ?_
              rintro e w10 ⟨rfl, m10, rfl⟩
              go_wp2_with fail
              go_roundw
              case rel => exact ⟨k + 1, by go_num, by omega, HP9.out.drewN m10⟩
              case measure => simp [intOf]; omega
          · have hdx : (x == 1) = false := by simp [x1]
            have hdx' : decide (x = 1) = false := decide_eq_false x1
            by_cases x2 : x = 2
            · subst x2
              go_wp2_with fail
              rw [HWA.out, HOO.out]
              refine (popAll wa L H sc ins HBO.out.heap).mono ?_
              rintro e w5 (⟨hnil, rfl, rfl⟩ | ⟨t, rfl, ht, hh5, hk5⟩)
              · have HNIL := Lib.hid hnil
                clear hnil
                go_wp2_with fail
                refine (bpop w5 B S I sc inn ins HBO.out.bag HBO.out.inOf HBO.out.heap.rg (by have := HSL.out; omega)).mono ?_
                rintro e w6 (⟨_, rfl, m6, rfl⟩ | ⟨t, ht, _⟩)
                · have HP9 : Hid (PRel w n L H B S I (w5.drewN m6)) := HPA.out.drewN m6
                  have hcy9 : (w5.drewN m6).cell? ⟨O, 1, none⟩ = some (.int .i64 y) := hcy
                  obtain ⟨w9, HW9⟩ : ∃ w9, Hid (w5.drewN m6 = w9) := ⟨_, rfl⟩
                  rw [HW9.out] at HP9 hcy9 ⊢
                  obtain ⟨sc9, inn9, ins9, hB9, _⟩ := HP9.out.both
                  have HB9 := Lib.hid hB9
                  clear hB9
                  go_wp2_with fail
                  refine (same_any _ L H B S I sc9 inn9 ins9 HB9.out y).mono ?_
                  rintro e w10 ⟨rfl, m10, rfl⟩
                  go_wp2_with fail
                  go_roundw
                  case rel => exact ⟨k + 1, by go_num, by omega, HP9.out.drewN m10⟩
                  case measure => simp [intOf]; omega
                · exact absurd ht.1 (by rw [HNIL.out]; simp)
              · have HH5 := Lib.hid hh5
                have HK5 := Lib.hid hk5
                have HT := Lib.hid ht
                have hcy5 : w5.cell? ⟨O, 1, none⟩ = some (.int .i64 y) := by rw [hk5.cellO hOw HOL.out.1]; exact hcy
                have hO5 : O < w5.heap.size := lt_of_cell hcy5
                have hbag5 := HBO.out.bag.kept hk5 HAP.out.nB HAP.out.nS HAP.out.nI
                have HBG5 := Lib.hid hbag5
                clear hh5 hk5 ht hbag5
                go_wp2_with fail
                refine (bpop w5 B S I sc inn ins HBG5.out HBO.out.inOf HBO.out.heap.rg (by have := HSL.out; omega)).mono ?_
                rintro e w6 (⟨hnil, _⟩ | ⟨t', ht', rfl, hbag6, hk6⟩)
                · exact absurd HT.out.1 (by rw [hnil]; simp)
                · obtain rfl := isTop_unique HT.out ht'
                  have htr := HBO.out.heap.rg t HT.out.1
                  have hcy6 : w6.cell? ⟨O, 1, none⟩ = some (.int .i64 y) := by rw [hk6.cellO hO5 (by simpa using HOL.out.2.2.2)]; exact hcy5
                  have HP9 : Hid (PRel w n L H B S I w6) := by
                    refine Lib.hid ⟨⟨sc, _, _, ⟨HH5.out.kept hk6 (fun b hb => by rw [List.mem_singleton]; rintro rfl; exact HAP.out.nI hb), hbag6, HBO.out.inOf.outt HBO.out.heap.nodup HBO.out.bag.len htr.2⟩, HSL.out⟩, ?_⟩
                    exact Kept.belowL (Kept.belowL HBE.out HK5.out (Nat.le_refl _) HAP.out.hL) hk6 (Nat.le_refl _) (fun b hb => by rw [List.mem_singleton] at hb; subst hb; exact HAP.out.hI)
                  have t1 : (0 : Int) < (t : Int) := by omega
                  have hdt : decide ((0 : Int) < (t : Int)) = true := decide_eq_true t1
                  have hdt2 : decide (0 < t) = true := decide_eq_true (by omega)
                  clear hbag6 hk6 ht'
                  obtain ⟨sc9, inn9, ins9, hB9, _⟩ := HP9.out.both
                  have HB9 := Lib.hid hB9
                  clear hB9
                  go_wp2_with fail
                  refine (same_any _ L H B S I sc9 inn9 ins9 HB9.out y).mono ?_
                  rintro e w10 ⟨rfl, m10, rfl⟩
                  go_wp2_with fail
                  go_roundw
                  case rel => exact ⟨k + 1, by go_num, by omega, HP9.out.drewN m10⟩
                  case measure => simp [intOf]; omega
            · have hdx2 : (x == 2) = false := by simp [x2]
              have hdx2' : decide (x = 2) = false := decide_eq_false x2
              by_cases x3 : x = 3
              · subst x3
                obtain ⟨r, hr⟩ : ∃ r, bumpR sc y z = r := ⟨_, rfl⟩
                have HRR := Lib.hid hr
                clear hr
                go_wp2_with fail
                rw [HWA.out, HOO.out]
                go_region_with (first | (go_at_call 13; refine (hbumpAny _ L H sc ins (HBO.out.heap.drewN 1) y z r HRR).mono ?_; rintro e w5 ⟨rfl, hh5, hk5'⟩; have hk5 : Kept L wa w5 := ((Kept.refl L wa).drewN 1).trans hk5'; have hcy5 : w5.cell? ⟨O, 1, none⟩ = some (.int .i64 y) := (hk5.cellO hOw HOL.out.1).trans hcy; have hcz5 : w5.cell? ⟨O, 2, none⟩ = some (.int .i64 z) := (hk5.cellO hOw HOL.out.1).trans hcz) | (go_at_call 22; refine (bbumpAny _ B S I sc inn (HBO.out.bag.kept hk5 HAP.out.nB HAP.out.nS HAP.out.nI) HBO.out.heap.ok y z r HRR).mono ?_; rintro e w6 ⟨rfl, hbag6, hk6⟩))
                all_goals
                  have hO5 : O < w5.heap.size := lt_of_cell hcy5
                  have hcy6 : w6.cell? ⟨O, 1, none⟩ = some (.int .i64 y) := by rw [hk6.cellO hO5 (by simpa using HOL.out.2.2.1)]; exact hcy5
                  have HP9 : Hid (PRel w n L H B S I w6) := by
                    refine Lib.hid ⟨⟨_, _, _, ⟨hh5.kept hk6 (fun b hb => by rw [List.mem_singleton]; rintro rfl; exact HAP.out.nS hb), hbag6, by rw [bumpS_len]; exact HBO.out.inOf⟩, by rw [bumpS_len]; exact HSL.out⟩, ?_⟩
                    exact Kept.belowL (Kept.belowL HBE.out hk5 (Nat.le_refl _) HAP.out.hL) hk6 (Nat.le_refl _) (fun b hb => by rw [List.mem_singleton] at hb; subst hb; exact HAP.out.hS)
                  have hrr : (r != r) = false := by simp
                  clear hbag6 hk6 hh5 hk5 hk5'
                  obtain ⟨sc9, inn9, ins9, hB9, _⟩ := HP9.out.both
                  have HB9 := Lib.hid hB9
                  clear hB9
                  go_wp2_with fail
                  refine (same_any _ L H B S I sc9 inn9 ins9 HB9.out y).mono ?_
                  rintro e w10 ⟨rfl, m10, rfl⟩
                  go_wp2_with fail
                  go_roundw
                  case rel => exact ⟨k + 1, by go_num, by omega, HP9.out.drewN m10⟩
                  case measure => simp [intOf]; omega
              · have hdx3 : (x == 3) = false := by simp [x3]
                have hdx3' : decide (x = 3) = false := decide_eq_false x3
                have HP9 := HPA
                go_wp2_with fail
                rw [HWA.out, HOO.out]
                obtain ⟨sc9, inn9, ins9, hB9, _⟩ := HP9.out.both
                have HB9 := Lib.hid hB9
                clear hB9
                go_wp2_with fail
                refine (same_any _ L H B S I sc9 inn9 ins9 HB9.out y).mono ?_
                rintro e w10 ⟨rfl, m10, rfl⟩
                go_wp2_with fail
                go_roundw
                case rel => exact ⟨k + 1, by go_num, by omega, HP9.out.drewN m10⟩
                case measure => simp [intOf]; omega
        · have hdk : decide (k < len1) = false := decide_eq_false hlt
          clear HO
          go_wp2_with fail
          go_loopw [13] (fun i wq => ∃ k : Nat, i = .int .i64 k ∧ k ≤ n + 2 ∧ ∃ m, wq = wr.drewN m) (fun i _ => n + 2 - (intOf i).toNat)
          case atStart => exact ⟨0, rfl, Nat.zero_le _, 0, rfl⟩
          case round =>
            obtain ⟨j, rfl, hj, m, rfl⟩ := hrel
            by_cases hjl : j ≤ n + 1
            · have j1 : (j : Int) ≤ (n : Int) + 1 := by omega
              have hdj : decide (j ≤ n + 1) = true := decide_eq_true hjl
              have hdj2 : decide ((j : Int) ≤ (n : Int) + 1) = true := decide_eq_true j1
              obtain ⟨sc, inn, ins, hBo, _⟩ := HR.out.both
              have HBO := Lib.hid hBo
              clear hBo
              go_wp2_with fail
              refine (same_any _ L H B S I sc inn ins (HBO.out.drewN m) (j : Int)).mono ?_
              rintro e w5 ⟨rfl, m5, rfl⟩
              go_wp2_with fail
              go_roundw
              case rel => exact ⟨j + 1, by go_num, by omega, m + m5, rfl⟩
              case measure => simp [intOf]; omega
            · have hdj : decide (j ≤ n + 1) = false := decide_eq_false hjl
              have hdj2 : decide ((j : Int) ≤ (n : Int) + 1) = false := decide_eq_false (by omega)
              go_wp2_with fail
              go_ret
              exact ⟨rfl, Below.drewN HR.out.be m⟩
end Go.Proofs.Ytfhbndfdlnbfpaa
