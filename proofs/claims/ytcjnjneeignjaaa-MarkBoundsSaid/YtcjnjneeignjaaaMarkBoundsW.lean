/- The walk of MarkBounds: for every slice of 32-bit numbers and every such number it returns true and changes nothing that was there. -/
import Derived.Test.YtcjnjneeignjaaaMarkB
namespace Go.Proofs.Ytcjnjneeignjaaa
open Go.RowKit
set_option linter.unusedVariables false
theorem und_iff (a b : Nat) : undB a b = true ↔ ∀ i, i < 32 → a.testBit i = true → b.testBit i = true := by
  unfold undB; rw [decide_eq_true_eq]; exact Iff.rfl
theorem joinN_bit (l : List Nat) (i : Nat) : (joinN l).testBit i = true ↔ ∃ x ∈ l, x.testBit i = true := by
  refine snoc_ind (P := fun l => (joinN l).testBit i = true ↔ ∃ x ∈ l, x.testBit i = true) (by simp [joinN]) ?_ l
  intro l c ih
  rw [joinN_snoc, Nat.testBit_or, Bool.or_eq_true, ih]
  constructor
  · rintro (⟨x, hx, h⟩ | h)
    · exact ⟨x, by simp [hx], h⟩
    · exact ⟨c, by simp, h⟩
  · rintro ⟨x, hx, h⟩
    rw [List.mem_append, List.mem_singleton] at hx
    rcases hx with hx | rfl
    · exact .inl ⟨x, hx, h⟩
    · exact .inr h
theorem meetN_bit (l : List Nat) (i : Nat) : (meetN l).testBit i = true ↔ i < 26 ∧ ∀ x ∈ l, x.testBit i = true := by
  refine snoc_ind (P := fun l => (meetN l).testBit i = true ↔ i < 26 ∧ ∀ x ∈ l, x.testBit i = true) ?_ ?_ l
  · have e : meetN [] = 2 ^ 26 - 1 := rfl
    rw [e, Nat.testBit_two_pow_sub_one]
    simp
  · intro l c ih
    rw [meetN_snoc, Nat.testBit_and, Bool.and_eq_true, ih]
    constructor
    · rintro ⟨⟨h1, h2⟩, h3⟩
      refine ⟨h1, fun x hx => ?_⟩
      rw [List.mem_append, List.mem_singleton] at hx
      rcases hx with hx | rfl
      · exact h2 x hx
      · exact h3
    · rintro ⟨h1, h2⟩
      exact ⟨⟨h1, fun x hx => h2 x (by simp [hx])⟩, h2 c (by simp)⟩
def aboveB (l : List Nat) (n : Nat) : Bool := l.all fun x => undB x n
def belowB (l : List Nat) (n : Nat) : Bool := l.all fun x => undB n x
theorem aboveB_snoc (l : List Nat) (n x : Nat) : aboveB (l ++ [x]) n = (aboveB l n && undB x n) := by simp [aboveB]
theorem belowB_snoc (l : List Nat) (n x : Nat) : belowB (l ++ [x]) n = (belowB l n && undB n x) := by simp [belowB]
theorem und_join (l : List Nat) (x : Nat) (h : x ∈ l) : undB x (joinN l) = true :=
  (und_iff _ _).2 fun i _ hb => (joinN_bit l i).2 ⟨x, h, hb⟩
theorem und_meet (l : List Nat) (x : Nat) (h : x ∈ l) : undB (meetN l) x = true :=
  (und_iff _ _).2 fun i _ hb => ((meetN_bit l i).1 hb).2 x h
theorem join_und (l : List Nat) (n : Nat) : undB (joinN l) n = aboveB l n := by
  rw [Bool.eq_iff_iff, und_iff, aboveB, List.all_eq_true]
  constructor
  · intro h x hx
    exact (und_iff _ _).2 fun i hi hb => h i hi ((joinN_bit l i).2 ⟨x, hx, hb⟩)
  · intro h i hi hb
    obtain ⟨x, hx, hb⟩ := (joinN_bit l i).1 hb
    exact (und_iff _ _).1 (h x hx) i hi hb
theorem meet_und (l : List Nat) (n : Nat) (hn : n < 4294967296) : undB n (meetN l) = (belowB l n && decide (n < 67108864)) := by
  rw [Bool.eq_iff_iff, und_iff, Bool.and_eq_true, belowB, List.all_eq_true, ← und_lt n hn, und_iff]
  constructor
  · intro h
    refine ⟨fun x hx => (und_iff _ _).2 fun i hi hb => ((meetN_bit l i).1 (h i hi hb)).2 x hx, fun i hi hb => ?_⟩
    have := ((meetN_bit l i).1 (h i hi hb)).1
    rw [show (67108863 : Nat) = 2 ^ 26 - 1 from rfl, Nat.testBit_two_pow_sub_one, decide_eq_true_eq]
    exact this
  · rintro ⟨h1, h2⟩ i hi hb
    refine (meetN_bit l i).2 ⟨?_, fun x hx => (und_iff _ _).1 (h1 x hx) i hi hb⟩
    have := h2 i hi hb
    rwa [show (67108863 : Nat) = 2 ^ 26 - 1 from rfl, Nat.testBit_two_pow_sub_one, decide_eq_true_eq] at this
theorem info_lab : (Try.prog.info? 23).map (fun i => (i.zero, i.size, i.bytes)) = some (some (.int .u32 0), 1, 4) := by kernel_rfl
theorem vals_snoc (l : List Nat) (x : Nat) : (natsOf (l ++ [x])).map (Value.int .u32) = (natsOf l).map (Value.int .u32) ++ [.int .u32 (x : Int)] := by simp [natsOf]
set_option maxHeartbeats 1600000 in
theorem markBounds_big (v : Value) (l : List Nat) (n : Nat) (w : World) (hr : IntRow .u32 w v (natsOf l)) (hl : ∀ x ∈ l, x < 4294967296) (hn : n < 4294967296) :
    Calls Try.prog 6 #[v, .int .u32 n] w fun e w' => e = .returned (.bool true) ∧ Below w.heap.size w w' := by
  have hmax := hr.len
  rw [natsOf_length] at hmax
  unfold maxLen at hmax
  have hv : ∃ a cap, v = .slice a l.length cap := by
    rcases hr with ⟨a, cap, rfl, h0⟩ | ⟨b, off, cap, rfl, _⟩
    · rw [← natsOf_length, h0]; exact ⟨_, _, rfl⟩
    · rw [natsOf_length]; exact ⟨_, _, rfl⟩
  obtain ⟨a, cap, rfl⟩ := hv
  by_cases hbig : 100 < l.length
  · have hd : decide ((100 : Int) < (l.length : Int)) = true := by simp; omega
    go_enter Try.func6, Try.ntmps6
    go_wp2_with fail
    refine (marked_any _).mono ?_
    rintro e w1 ⟨rfl, hb1⟩
    go_wp2_with fail
    refine (marked_any _).mono ?_
    rintro e w2 ⟨rfl, hb2⟩
    go_wp2_with fail
    go_ret
    exact ⟨rfl, bthen hb1 hb2⟩
  · have hd : decide ((100 : Int) < (l.length : Int)) = false := by simp; omega
    obtain ⟨i0, hi, hz0, hz1, hz2⟩ := info_parts info_lab
    have HR := Lib.hid hr
    have HL := Lib.hid hl
    clear hr hl
    go_enter Try.func6, Try.ntmps6
    go_wp2_with fail
    refine (marked_any _).mono ?_
    rintro e w1 ⟨rfl, hb1⟩
    go_wp2_with fail
    go_loopw [5, 6, 7, 9] (fun o x y i wr => ∃ k : Nat, k ≤ l.length ∧ i = .int .i64 k ∧ x = .bool (aboveB (l.take k) n) ∧ y = .bool (belowB (l.take k) n) ∧ wr.ownsRow w.heap.size 23 1 o (l.take k).length ((natsOf (l.take k)).map (Value.int .u32)) ∧ Below w.heap.size w wr) (fun _ _ _ i _ => l.length - (intOf i).toNat)
    case atStart => exact ⟨0, by omega, rfl, rfl, rfl, by simpa [natsOf] using World.ownsRow_nil _ _ _ _, hb1⟩
    case round =>
      obtain ⟨k, hk, rfl, rfl, rfl, hown, hb⟩ := hrel
      have hsz := hb.size
      by_cases hlt : k < l.length
      · rcases HR.out with ⟨_, _, _, h0⟩ | ⟨b, off, cap', hv, hq1, hq2, hbw, hcell⟩
        · rw [← natsOf_length, h0] at hlt; exact absurd hlt (by simp)
        simp only [Value.slice.injEq] at hv
        obtain ⟨rfl, hq3, rfl⟩ := hv
        clear hq1 hq2 hq3
        have hc := hcell k (by rw [natsOf_length]; exact hlt)
        rw [natsOf_getD] at hc
        have hx := HL.out _ (getD_mem_nat l k hlt)
        have hcr : wr.cell? ⟨b, off + k, none⟩ = some (.int .u32 (l.getD k 0 : Nat)) := by rw [hb.cell (p := ⟨b, off + k, none⟩) hbw]; exact hc
        have hlk : (l.take k).length = k := by simp; omega
        have HS1 : Hid (aboveB (l.take (k + 1)) n = (aboveB (l.take k) n && undB (l.getD k 0) n)) := by rw [take_snoc_nat l k hlt, aboveB_snoc]; rfl
        have HS2 : Hid (belowB (l.take (k + 1)) n = (belowB (l.take k) n && undB n (l.getD k 0))) := by rw [take_snoc_nat l k hlt, belowB_snoc]; rfl
        have HS3 : Hid ((natsOf (l.take (k + 1))).map (Value.int .u32) = (natsOf (l.take k)).map (Value.int .u32) ++ [.int .u32 (l.getD k 0 : Nat)]) := by rw [take_snoc_nat l k hlt, vals_snoc]; rfl
        have HS4 : Hid ((l.take (k + 1)).length = k + 1) := by rw [List.length_take]; show min _ _ = _; omega
        rw [hlk] at hown
        have HC := Lib.hid hc
        clear hcell hc hlk
        generalize l.getD k 0 = x at *
        generalize aboveB (l.take k) n = A at *
        generalize belowB (l.take k) n = B at *
        generalize (natsOf (l.take k)).map (Value.int .u32) = xs at *
        cases A <;> cases B
        all_goals
          go_wp2_with (at_builtin; refine wpList_append_own _ rfl _ _ 45 rfl w.heap.size 23 i0 (.int .u32 0) 1 4 Try.underlying45 hi hz0 hz1 hz2 rfl (by decide) _ _ _ rfl (hown.alloc _) ⟨wr.heap.size, 0, none⟩ 1 1 [.int .u32 (x : Int)] rfl rfl ?_ ?_ ?_ ?_ ?_ ?_)
          · exact cell_one_new _ _ _
          · intro u hu; rw [List.mem_singleton] at hu; subst hu; rfl
          · unfold maxLen; omega
          · omega
          · simp; omega
          intro v' w2 hown' hgrow _
          have hb2 : Below w.heap.size w w2 := (hb.alloc hsz _).grown hgrow (by simp; omega) (fun g hg => (hown.lt g hg).1)
          have hown2 : w2.ownsRow w.heap.size 23 1 v' (l.take (k + 1)).length ((natsOf (l.take (k + 1))).map (Value.int .u32)) := by
            rw [HS3.out, HS4.out]; exact hown'
          have hcr2 : w2.cell? ⟨b, off + k, none⟩ = some (.int .u32 (x : Nat)) := by rw [hb2.cell (p := ⟨b, off + k, none⟩) hbw]; exact HC.out
          have HO2 := Lib.hid hown2
          clear hown' hgrow hown2 hown hcr
          go_wp2_with (go_at_call 10; first | ((with_reducible refine (runder_any x n _ hx hn).mono ?_); rintro e w3 ⟨rfl, rfl⟩) | ((with_reducible refine (runder_any n x _ hn hx).mono ?_); rintro e w3 ⟨rfl, rfl⟩))
          go_roundw
          case rel => exact ⟨k + 1, by omega, by go_num, by rw [HS1.out]; rfl, by rw [HS2.out]; rfl, HO2.out, hb2⟩
          case measure => simp [intOf]; omega
      · obtain rfl : k = l.length := by omega
        rw [List.take_length] at hown ⊢
        rw [← natsOf_length] at hown
        have hrow := intRow_own hown
        have hjl := joinN_lt l HL.out
        have hml := meetN_lt l
        obtain ⟨x, hx, HX⟩ : ∃ x : Bool, decide ((n : Int) < 67108864) = x ∧ Hid (undB n 67108863 = x) := ⟨decide (n < 67108864), by simp; omega, und_lt n hn⟩
        have HJ := Lib.hid (join_und l n)
        have HM : Hid (undB n (meetN l) = (belowB l n && x)) := by
          have := meet_und l n hn
          rwa [← und_lt n hn, HX.out] at this
        have HU := Lib.hid (und_all _ hml)
        have HROW := Lib.hid hrow
        clear hown hrow
        generalize aboveB l n = A at *
        generalize belowB l n = B at *
        go_wp2_with fail
        refine (join_any _ l _ HROW.out HL.out).mono ?_
        rintro e w3 ⟨rfl, rfl⟩
        go_wp2_with fail
        refine (meet_any _ l _ HROW.out HL.out).mono ?_
        rintro e w3 ⟨rfl, rfl⟩
        obtain ⟨a', cap', hv⟩ := intRow_shape HROW.out
        rw [natsOf_length] at hv
        subst hv
        go_wp2_with fail
        go_loop [12] (fun i => ∃ k : Nat, k ≤ l.length ∧ i = .int .i64 k) (fun i => l.length - (intOf i).toNat)
        case atStart => exact ⟨0, by omega, rfl⟩
        case round =>
          obtain ⟨k, hk, rfl⟩ := hrel
          by_cases hlt : k < l.length
          · rcases HROW.out with ⟨_, _, _, h0⟩ | ⟨b, off, cap'', hv, hq1, hq2, hbw, hcell⟩
            · rw [← natsOf_length, h0] at hlt; exact absurd hlt (by simp)
            simp only [Value.slice.injEq] at hv
            obtain ⟨rfl, hq3, rfl⟩ := hv
            have hc := hcell k (by rw [natsOf_length]; exact hlt)
            rw [natsOf_getD] at hc
            have hx := HL.out _ (getD_mem_nat l k hlt)
            have H1 := Lib.hid (und_join l _ (getD_mem_nat l k hlt))
            have H2 := Lib.hid (und_meet l _ (getD_mem_nat l k hlt))
            clear hq1 hq2 hq3 hcell
            generalize l.getD k 0 = y at *
            go_wp2_with fail
            refine (under_is y (joinN l) _ _ hx hjl H1).mono ?_
            rintro e w3 ⟨rfl, rfl⟩
            go_wp2_with fail
            refine (under_is (meetN l) y _ _ (by omega) hx H2).mono ?_
            rintro e w3 ⟨rfl, rfl⟩
            go_wp2_with fail
            go_round
            case rel => exact ⟨k + 1, by omega, by go_num⟩
            case measure => simp [intOf]; omega
          · go_wp2_with fail
            refine (under_is (joinN l) n _ _ hjl hn HJ).mono ?_
            rintro e w3 ⟨rfl, rfl⟩
            have e1 : (A == A) = true := beq_self_eq_true _
            go_wp2_with fail
            refine (check_any (meetN l) _ (by omega)).mono ?_
            rintro e w3 ⟨rfl, rfl⟩
            rw [HU.out]
            go_wp2_with fail
            refine (under_is n (meetN l) _ _ hn (by omega) HM).mono ?_
            rintro e w3 ⟨rfl, rfl⟩
            cases B <;> cases x
            all_goals
              go_wp2_with fail
              go_ret
              exact ⟨rfl, hb⟩
theorem markBounds_walk (a0 : Option Addr) (len0 cap0 : Nat) (z0 : List Int) (a1 : Int) (w : World) (w0 : IsRow .u32 w a0 len0 cap0 z0) (w1 : (Lit.int .u32 a1).wf = true) :
    Calls Try.prog 6 #[.slice a0 len0 cap0, .int .u32 a1] w fun e w' => e = .returned (.bool true) ∧ Below w.heap.size w w' := by
  obtain ⟨n, rfl, hn⟩ := nat_of_u32 w1
  obtain ⟨l, hr, hlen, hwf⟩ := intRow_of w0
  obtain ⟨ln, rfl⟩ : ∃ ln : List Nat, l = natsOf ln := by
    refine ⟨l.map Int.toNat, ?_⟩
    unfold natsOf
    rw [List.map_map]
    symm
    conv => rhs; rw [← List.map_id l]
    apply List.map_congr_left
    intro x hx
    have := bounds_u32 (hwf x hx)
    simp; omega
  refine markBounds_big _ ln n w hr (fun x hx => ?_) hn
  have := bounds_u32 (hwf x (List.mem_map.2 ⟨x, hx, rfl⟩))
  omega
end Go.Proofs.Ytcjnjneeignjaaa
