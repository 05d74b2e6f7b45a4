/- The walk of LinesWrites. -/
import Derived.Test.YtfhicmjfifpjkaaLinAL
import Derived.Test.YtfhicmjfifpjkaaLinK
import Derived.Test.YtfhicmjfifpjkaaLinI
namespace Go.Proofs.Ytfhicmjfifpjkaa
open Go.RowKit
set_option linter.unusedVariables false
/-- the rows so far are short, of short words -/
def RowsOk (LL : List (List (List UInt8))) : Prop := ∀ ws ∈ LL, ws.length ≤ 40 ∧ ∀ x ∈ ws, x.length ≤ 200
theorem rowsOk_len {LL : List (List (List UInt8))} (h : RowsOk LL) : lenL LL ≤ 8040 * LL.length := by
  induction LL with
  | nil => simp [lenL]
  | cons ws t ih =>
    have h1 := h ws (by simp)
    have h2 := lenW_le (ws := ws) (m := 200) h1.2
    have h3 := ih (fun x hx => h x (by simp [hx]))
    have e : lenL (ws :: t) = lenW ws + lenL t := by simp [lenL]
    rw [e, List.length_cons]; omega
theorem rowsOk_snoc {LL : List (List (List UInt8))} {k : Nat} (h : RowsOk (LL.take k)) (hk : k < LL.length) (h1 : (LL.getD k []).length ≤ 40) (h2 : ∀ x ∈ LL.getD k [], x.length ≤ 200) : RowsOk (LL.take (k + 1)) := by
  rw [List.take_succ_eq_append_getElem hk]
  have e : LL.getD k [] = LL[k] := by simp [hk]
  rw [e] at h1 h2
  intro ws hws
  rcases List.mem_append.1 hws with hws | hws
  · exact h ws hws
  · rw [List.mem_singleton] at hws; subst hws; exact ⟨h1, h2⟩
theorem mayL_take (LL : List (List (List UInt8))) (k : Nat) (h : k < LL.length) : mayL (LL.take (k + 1)) = (mayL (LL.take k) && mayW (LL.getD k [])) := by
  rw [List.take_succ_eq_append_getElem h, mayL_snoc]; simp [h]
theorem lenL_take (LL : List (List (List UInt8))) (k : Nat) (h : k < LL.length) : lenL (LL.take (k + 1)) = lenL (LL.take k) + lenW (LL.getD k []) := by
  rw [List.take_succ_eq_append_getElem h, lenL_snoc]; simp [h]
theorem lenW_take (ws : List (List UInt8)) (q : Nat) (h : q < ws.length) : lenW (ws.take (q + 1)) = lenW (ws.take q) + ((ws.getD q []).length + 1) := by
  rw [List.take_succ_eq_append_getElem h, lenW_snoc]; simp [h]
theorem all_take (ws : List (List UInt8)) (q : Nat) (h : q < ws.length) : (ws.take (q + 1)).all wordL = ((ws.take q).all wordL && wordL (ws.getD q [])) := by
  have e : ws.getD q [] = ws[q] := by simp [h]
  rw [List.take_succ_eq_append_getElem h, List.all_append, e, List.all_cons, List.all_nil, Bool.and_true]
/-- what is so of a row, its first words seen -/
structure InRow (M : Bool) (G : Nat) (ws : List (List UInt8)) (q : Nat) (m : Bool) (g : Nat) : Prop where
  hq : q ≤ ws.length
  hm : m = (M && (ws.take q).all wordL)
  hg : g = G + lenW (ws.take q)
  ok : ∀ x ∈ ws.take q, x.length ≤ 200
theorem InRow.step {M : Bool} {G : Nat} {ws : List (List UInt8)} {q : Nat} {m v : Bool} {g : Nat} (h : InRow M G ws q m g) (hq : q < ws.length) (hl : (ws.getD q []).length ≤ 200) (hv : (m && wordL (ws.getD q [])) = v) : InRow M G ws (q + 1) v (g + (ws.getD q []).length + 1) := by
  refine ⟨hq, ?_, by rw [h.hg, lenW_take ws q hq]; omega, ?_⟩
  · rw [all_take ws q hq, ← Bool.and_assoc, ← h.hm, hv]
  · rw [List.take_succ_eq_append_getElem hq]
    have e : ws.getD q [] = ws[q] := by simp [hq]
    rw [e] at hl
    intro x hx
    rcases List.mem_append.1 hx with hx | hx
    · exact h.ok x hx
    · rw [List.mem_singleton] at hx; subst hx; exact hl
structure OutRow (LL : List (List (List UInt8))) (k : Nat) (m : Bool) (g : Nat) : Prop where
  hk : k ≤ LL.length
  hm : m = mayL (LL.take k)
  hg : g = lenL (LL.take k)
  ok : RowsOk (LL.take k)
theorem OutRow.step {LL : List (List (List UInt8))} {k : Nat} {m m' : Bool} {g g' : Nat} (h : OutRow LL k m g) (hk : k < LL.length) (h40 : (LL.getD k []).length ≤ 40) (hi : InRow (m && decide (0 < (LL.getD k []).length) && decide ((LL.getD k []).length ≤ 20)) g (LL.getD k []) (LL.getD k []).length m' g') : OutRow LL (k + 1) m' g' := by
  have h1 := hi.hm
  have h2 := hi.hg
  have h3 := hi.ok
  rw [List.take_length] at h1 h2 h3
  refine ⟨hk, ?_, by rw [h2, h.hg, lenL_take LL k hk], rowsOk_snoc h.ok hk h40 h3⟩
  rw [h1, mayL_take LL k hk, h.hm, mayW]
  simp only [Bool.and_assoc]
set_option maxRecDepth 100000 in
set_option maxHeartbeats 3200000 in
theorem linesWrites_list (a : Option Addr) (cap : Nat) (LL : List (List (List UInt8))) (w : World) (h : RowOf 1 StrsC w (.slice a LL.length cap) LL) :
    Calls Try.prog 8 #[.slice a LL.length cap] w fun e w' => e = .returned (.bool true) ∧ Below w.heap.size w w' := by
  have hmx := h.len
  unfold maxLen at hmx
  have H := Lib.hid h
  clear h
  by_cases h100 : 100 < LL.length
  · have hd : decide ((100 : Int) < (LL.length : Int)) = true := decide_eq_true (by omega)
    have hd' : decide (100 < LL.length) = true := decide_eq_true h100
    go_enter Try.func8, Try.ntmps8
    go_wp2_with fail
    refine (lread_any _).mono ?_
    rintro e w1 ⟨rfl, hb1⟩
    go_wp2_with fail
    go_ret
    exact ⟨rfl, hb1⟩
  · have hd : decide ((100 : Int) < (LL.length : Int)) = false := decide_eq_false (by omega)
    have hd' : decide (100 < LL.length) = false := decide_eq_false h100
    have H0 : Hid (OutRow LL 0 true 0) := Lib.hid ⟨Nat.zero_le _, by simp [mayL], by simp [lenL], fun x hx => by simp at hx⟩
    go_enter Try.func8, Try.ntmps8
    go_wp2_with fail
    go_loop [3, 4, 5] (fun mv gv i => ∃ (k g : Nat) (m : Bool), i = .int .i64 k ∧ mv = .bool m ∧ gv = .int .i64 g ∧ OutRow LL k m g) (fun _ _ i => LL.length - (intOf i).toNat)
    case atStart => exact ⟨0, 0, true, rfl, rfl, rfl, H0.out⟩
    case round =>
      obtain ⟨k, g, m, rfl, rfl, rfl, hO⟩ := hrel
      have HO := Lib.hid hO
      have hk := hO.hk
      have hg : g ≤ 1000000 := by
        have h1 := rowsOk_len hO.ok
        have h2 := hO.hg
        rw [List.length_take] at h1
        have : 8040 * min k LL.length ≤ 8040 * 100 := Nat.mul_le_mul_left _ (by omega)
        omega
      clear hO H0
      have k0 : (0 : Int) ≤ (k : Int) := by omega
      have g0 : (0 : Int) ≤ (g : Int) := by omega
      by_cases hlt : k < LL.length
      · have k1 : (k : Int) < (LL.length : Int) := by omega
        have hdk : decide (k < LL.length) = true := decide_eq_true hlt
        obtain ⟨b, off, va, vc, rfl, hb, hc, hr, hm⟩ := row_at H.out k hlt
        have HST := Lib.hid (fun m' g' => @OutRow.step LL k m m' g g' HO.out hlt)
        obtain ⟨ws, hws⟩ : ∃ ws, LL.getD k [] = ws := ⟨_, rfl⟩
        rw [hws] at hc hr HST
        have HR := Lib.hid hr
        have hwm := hr.len
        rw [strVals_length] at hwm
        unfold maxLen at hwm
        clear hr hm hws
        obtain ⟨M, hM⟩ : ∃ M, (m && decide (0 < ws.length) && decide (ws.length ≤ 20)) = M := ⟨_, rfl⟩
        rw [hM] at HST
        have HMM := Lib.hid hM
        clear hM
        by_cases h40 : 40 < ws.length
        · have hd4 : decide ((40 : Int) < (ws.length : Int)) = true := decide_eq_true (by omega)
          have hd4' : decide (40 < ws.length) = true := decide_eq_true h40
          go_wp2_with fail
          refine (lread_any _).mono ?_
          rintro e w1 ⟨rfl, hb1⟩
          go_wp2_with fail
          go_ret
          exact ⟨rfl, hb1⟩
        · have hd4 : decide ((40 : Int) < (ws.length : Int)) = false := decide_eq_false (by omega)
          have hd4' : decide (40 < ws.length) = false := decide_eq_false h40
          have hcase : (m = false) ∨ (m = true ∧ ws.length = 0) ∨ (m = true ∧ 0 < ws.length ∧ ws.length ≤ 20) ∨ (m = true ∧ 0 < ws.length ∧ 20 < ws.length) := by
            cases m
            · exact .inl rfl
            · rcases Nat.eq_zero_or_pos ws.length with h0 | h0
              · exact .inr (.inl ⟨rfl, h0⟩)
              · rcases Nat.lt_or_ge 20 ws.length with h2 | h2
                · exact .inr (.inr (.inr ⟨rfl, h0, h2⟩))
                · exact .inr (.inr (.inl ⟨rfl, h0, h2⟩))
          rcases hcase with rfl | ⟨rfl, hz⟩ | ⟨rfl, hz, h20⟩ | ⟨rfl, hz, h20⟩
          case' inl =>
            have HM : Hid (M = false) := Lib.hid (by rw [← HMM.out]; rfl)
          case' inr.inl =>
            have hd5 : decide (0 < (ws.length : Int)) = false := decide_eq_false (by omega)
            have hd5' : decide (0 < ws.length) = false := decide_eq_false (by omega)
            have HM : Hid (M = false) := Lib.hid (by rw [← HMM.out, hd5']; rfl)
            have HZ := Lib.hid hz
            clear hz
          case' inr.inr.inl =>
            have hd5 : decide (0 < (ws.length : Int)) = true := decide_eq_true (by omega)
            have hd5' : decide (0 < ws.length) = true := decide_eq_true (by omega)
            have hd6 : decide ((ws.length : Int) ≤ 20) = true := decide_eq_true (by omega)
            have hd6' : decide (ws.length ≤ 20) = true := decide_eq_true (by omega)
            have HM : Hid (M = true) := Lib.hid (by rw [← HMM.out, hd5', hd6']; rfl)
          case' inr.inr.inr =>
            have hd5 : decide (0 < (ws.length : Int)) = true := decide_eq_true (by omega)
            have hd5' : decide (0 < ws.length) = true := decide_eq_true (by omega)
            have hd6 : decide ((ws.length : Int) ≤ 20) = false := decide_eq_false (by omega)
            have hd6' : decide (ws.length ≤ 20) = false := decide_eq_false (by omega)
            have HM : Hid (M = false) := Lib.hid (by rw [← HMM.out, hd5', hd6']; rfl)
          all_goals
            go_wp2_with fail
            go_loop [3, 4, 6] (fun mv gv i => ∃ (q g' : Nat) (m' : Bool), i = .int .i64 q ∧ mv = .bool m' ∧ gv = .int .i64 g' ∧ InRow M g ws q m' g') (fun _ _ i => ws.length - (intOf i).toNat)
            case atStart => exact ⟨0, g, _, rfl, rfl, rfl, Nat.zero_le _, by rw [HM.out]; simp, by simp [lenW], by simp⟩
            case round =>
              obtain ⟨q, g', m', rfl, rfl, rfl, hI⟩ := hrel
              have HI := Lib.hid hI
              have hq := hI.hq
              have hg' : g' ≤ 1010000 := by
                have h1 := hI.hg
                have h2 := lenW_le (ws := ws.take q) (m := 200) hI.ok
                rw [List.length_take] at h2
                have : (200 + 1) * min q ws.length ≤ (200 + 1) * 40 := Nat.mul_le_mul_left _ (by omega)
                omega
              clear hI
              have q0 : (0 : Int) ≤ (q : Int) := by omega
              have g0' : (0 : Int) ≤ (g' : Int) := by omega
              by_cases hqt : q < ws.length
              · have q1 : (q : Int) < (ws.length : Int) := by omega
                have hdq : decide (q < ws.length) = true := decide_eq_true hqt
                obtain ⟨b2, off2, hva, hb2, hc2⟩ := valRow_cells HR.out q (by rw [strVals_length]; exact hqt)
                subst hva
                have c2 := hc2 q (by rw [strVals_length]; exact hqt)
                rw [strVals_get _ _ hqt] at c2
                have HSTEP := Lib.hid (fun v => @InRow.step M g ws q m' v g' HI.out hqt)
                obtain ⟨x, hx⟩ : ∃ x, ws.getD q [] = x := ⟨_, rfl⟩
                rw [hx] at c2 HSTEP
                clear hc2 hx
                by_cases h200 : 200 < x.length
                · have hd7 : decide ((200 : Int) < (x.length : Int)) = true := decide_eq_true (by omega)
                  have hd7' : decide (200 < x.length) = true := decide_eq_true h200
                  go_wp2_with fail
                  refine (lread_any _).mono ?_
                  rintro e w1 ⟨rfl, hb1⟩
                  go_wp2_with fail
                  go_ret
                  exact ⟨rfl, hb1⟩
                · have hd7 : decide ((200 : Int) < (x.length : Int)) = false := decide_eq_false (by omega)
                  have hd7' : decide (200 < x.length) = false := decide_eq_false h200
                  cases m' with
                  | false =>
                    have HNX := Lib.hid (HSTEP.out false (by omega) rfl)
                    go_wp2_with fail
                    go_round
                    case rel => exact ⟨q + 1, g' + x.length + 1, false, by go_num, rfl, by go_num, HNX.out⟩
                    case measure => simp [intOf]; omega
                  | true =>
                    obtain ⟨v, hv⟩ : ∃ v, wordL x = v := ⟨_, rfl⟩
                    have HV := Lib.hid hv
                    have HNX := Lib.hid (HSTEP.out v (by omega) (by rw [hv]; rfl))
                    clear hv
                    go_wp2_with fail
                    refine (word_is x v _ (by omega) HV).mono ?_
                    rintro e w1 ⟨rfl, rfl⟩
                    go_wp2_with fail
                    go_round
                    case rel => exact ⟨q + 1, g' + x.length + 1, v, by go_num, rfl, by go_num, HNX.out⟩
                    case measure => simp [intOf]; omega
              · have hdq : decide (q < ws.length) = false := decide_eq_false hqt
                have HNX : Hid (OutRow LL (k + 1) m' g') := Lib.hid (HST.out m' g' (by omega) (by have e : q = ws.length := by omega
                                                                                                  rw [← e]; exact HI.out))
                go_wp2_with fail
                go_round
                case rel => exact ⟨k + 1, g', m', by go_num, rfl, rfl, HNX.out⟩
                case measure => simp [intOf]; omega
      · have hdk : decide (k < LL.length) = false := decide_eq_false hlt
        have HE : Hid (LL.take k = LL) := Lib.hid (List.take_of_length_le (by omega))
        have HM : Hid (m = mayL LL ∧ g = lenL LL ∧ RowsOk LL) := Lib.hid (by have h1 := HO.out.hm; have h2 := HO.out.hg; have h3 := HO.out.ok; rw [HE.out] at h1 h2 h3; exact ⟨h1, h2, h3⟩)
        have HLEN : Hid ((writeL LL).length ≤ 100000000) := Lib.hid (by
          have h1 := writeL_le LL
          have h2 := HM.out.2.1
          omega)
        obtain ⟨s, hs⟩ : ∃ s, writeL LL = s := ⟨_, rfl⟩
        have HS := Lib.hid hs
        rw [hs] at HLEN
        clear hs
        have hne : (s != s) = false := by simp
        go_wp2_with fail
        refine (lwrite_any a cap LL _ H.out s HS HLEN.out (fun ws hws => by have := (HM.out.2.2 ws hws).1; omega)).mono ?_
        rintro e w1 ⟨rfl, hb1⟩
        have HB1 := Lib.hid hb1
        clear hb1
        go_wp2_with fail
        refine (lread_any _).mono ?_
        rintro e w2 ⟨rfl, hb2⟩
        have HB2 := Lib.hid (HB1.out.trans (hb2.mono HB1.out.size))
        clear hb2
        go_wp2_with fail
        refine (rwrite_any a cap LL _ (H.out.below strsC_lasts HB2.out) s HS HLEN.out).mono ?_
        rintro e w3 ⟨rfl, rfl⟩
        cases m with
        | false =>
          go_wp2_with fail
          go_ret
          exact ⟨rfl, HB2.out⟩
        | true =>
          by_cases hbig : 20000 < g
          · have hd8 : decide ((20000 : Int) < (g : Int)) = true := decide_eq_true (by omega)
            have hd8' : decide (20000 < g) = true := decide_eq_true hbig
            go_wp2_with fail
            go_ret
            exact ⟨rfl, HB2.out⟩
          · have hd8 : decide ((20000 : Int) < (g : Int)) = false := decide_eq_false (by omega)
            have hd8' : decide (20000 < g) = false := decide_eq_false hbig
            obtain ⟨Y, hY1, hY2, hY3⟩ := write_top (LL := LL) HM.out.1.symm (by have := HM.out.2.1; omega) (by omega)
            rw [HS.out] at hY1
            have HY1 := Lib.hid hY1
            have HY2 := Lib.hid hY2
            have HY3 := Lib.hid hY3
            have hYl : Y.length = LL.length := by rw [← hY2, List.length_map]
            clear hY1 hY2 hY3
            go_wp2_with fail
            refine (top_read s _ _ HY1 (by have := HLEN.out; omega)).mono ?_
            rintro e w4 ⟨v, rfl, hrow, hb4⟩
            obtain ⟨xa, xc, rfl⟩ := FixOf.shape hrow
            have HROW := Lib.hid hrow
            have HB4 := Lib.hid (HB2.out.trans (hb4.mono HB2.out.size))
            rw [hYl] at HROW ⊢
            have hll : ((LL.length : Int) != (LL.length : Int)) = false := by simp
            clear hrow hb4
            go_wp2_with fail
            obtain ⟨W, hW⟩ : ∃ W, w4.alloc (.cells #[.int .i64 0, .int .i64 0, .int .i64 0] 30) = W := ⟨_, rfl⟩
            have hWb : Below w4.heap.size w4 W := by rw [← hW]; exact (Below.refl _ _).alloc (Nat.le_refl _) _
            have HWB := Lib.hid hWb
            have HBW := Lib.hid (HB4.out.trans (hWb.mono HB4.out.size))
            rw [hW]
            clear hW hWb
            go_loopw [10] (fun i wr => ∃ k : Nat, i = .int .i64 k ∧ k ≤ LL.length ∧ ∃ q, wr = W.drewN q) (fun i _ => LL.length - (intOf i).toNat)
            case atStart => exact ⟨0, rfl, Nat.zero_le _, 0, rfl⟩
            case round =>
              obtain ⟨j, rfl, hj, q, hwq⟩ := hrel
              have HWQ := Lib.hid hwq
              have HBQ : Hid (Below W.heap.size W wr) := Lib.hid (by rw [hwq]; exact below_drewN (Below.refl _ _) q)
              clear hwq
              have j0 : (0 : Int) ≤ (j : Int) := by omega
              by_cases hjt : j < LL.length
              · have j1 : (j : Int) < (LL.length : Int) := by omega
                have hdj : decide (j < LL.length) = true := decide_eq_true hjt
                obtain ⟨b, off, va, vc, rfl, hb, hc, hr, hm⟩ := row_at (H.out.below strsC_lasts (HBW.out.trans (HBQ.out.mono HBW.out.size))) j hjt
                obtain ⟨bx, ox, hxa, hbx, cs, hcs⟩ := fix_at HROW.out j (by omega)
                subst hxa
                obtain ⟨⟨_, hcc⟩, wv, cv, rfl, hr2, _⟩ := hcs wr (near_of_below _ (HWB.out.trans (HBQ.out.mono HWB.out.size)))
                have e0 : wr.cell? ⟨bx, ox + j * 3, none⟩ = some (.int .i64 (Y[j]'(by omega)).no) := hcc 0 (by omega)
                have e1 : wr.cell? ⟨bx, ox + j * 3 + 1, none⟩ = some wv := hcc 1 (by omega)
                have hno := HY3.out j (by omega)
                have hws : (Y[j]'(by omega)).ws = LL.getD j [] := by
                  have h1 : (Y.map (·.ws))[j]? = some (Y[j]'(by omega)).ws := by simp [show j < Y.length from by omega]
                  rw [HY2.out] at h1
                  simp [List.getD, h1]
                rw [hws] at hr2
                rw [hno, show (((1 + j : Nat)) : Int) = (j : Int) + 1 from by omega] at e0
                obtain ⟨ws, hws2⟩ : ∃ ws, LL.getD j [] = ws := ⟨_, rfl⟩
                rw [hws2] at hc hr hr2
                obtain ⟨wa2, wc2, rfl⟩ := hr2.shape
                rw [strVals_length] at e1 hr2
                have HRA := Lib.hid hr
                have HRB := Lib.hid hr2
                have hjj : (((j : Int) + 1) != ((j : Int) + 1)) = false := by simp
                have hjw : IntKind.i64.wrap ((j : Int) + 1) = (j : Int) + 1 := IntWalk.i64_in _ (by omega)
                clear hr hr2 hm hcc hcs hno hws hws2
                go_wp2_with fail
                go_quiet ((go_at_call 12; exact Calls.quiet_of (texts_same _ _ ws _ (HRB.out.drewN _) (HRA.out.drewN _))))
                go_wp2_with fail
                go_roundw
                case rel => exact ⟨j + 1, by go_num, by omega, q + nq, by rw [HWQ.out, World.drewN_drewN]⟩
                case measure => simp [intOf]; omega
              · have hdj : decide (j < LL.length) = false := decide_eq_false hjt
                go_wp2_with fail
                go_ret
                exact ⟨rfl, HBW.out.trans (HBQ.out.mono HBW.out.size)⟩
theorem linesWrites_walk (a0 : Option Addr) (len0 cap0 : Nat) (z0 : List (List (List UInt8))) (w : World) (w0 : RowOf 1 StrsC w (.slice a0 len0 cap0) z0) :
    Calls Try.prog 8 #[.slice a0 len0 cap0] w fun e w' => e = .returned (.bool true) ∧ Below w.heap.size w w' := by
  obtain ⟨a', cap', he⟩ := w0.shape
  simp only [Value.slice.injEq] at he
  obtain ⟨_, hlen, _⟩ := he
  subst hlen
  exact linesWrites_list a0 cap0 z0 w w0
end Go.Proofs.Ytfhicmjfifpjkaa
