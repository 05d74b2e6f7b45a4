/- The walk of the reference's Split. -/
import Derived.Test.YtfhicmjfifpjkaaLinC
import Derived.Deep.DeepCutAuto
import Derived.Deep.CutBlock
namespace Go.Proofs.Ytfhicmjfifpjkaa
open Go.RowKit
set_option linter.unusedVariables false
theorem SplR.first2 (w : World) (no : Nat) (T4 T5 T6 : TypeId) :
    SplR w no [] [] (.slice none 0 0) (.slice none 0 0) (((w.alloc (.cells #[.int .i64 0, .slice none 0 0, .slice none 0 0] T4)).alloc (.cells #[.int .i64 0, .int .i64 0, .int .i64 0] T5)).alloc (.cells #[.int .i64 no, .slice none 0 0, .slice none 0 0] T6)) := by
  have a4 := (varAt_new w #[.int .i64 0, .slice none 0 0, .slice none 0 0] T4 _ rfl).alloc (.cells #[.int .i64 0, .int .i64 0, .int .i64 0] T5)
  have a5 := varAt_new (w.alloc (.cells #[.int .i64 0, .slice none 0 0, .slice none 0 0] T4)) #[.int .i64 0, .int .i64 0, .int .i64 0] T5 (w.heap.size + 1) (by simp)
  refine ⟨a4.alloc _, a5.alloc _, ?_, ⟨by simp [strVals], .inl ⟨rfl, rfl⟩⟩, ⟨by simp [natVals], .inl ⟨rfl, rfl⟩⟩, (fun g hg => by cases hg), ?_⟩
  · exact varAt_new _ #[.int .i64 no, .slice none 0 0, .slice none 0 0] _ _ (by simp)
  · exact (((Below.refl _ _).alloc (Nat.le_refl _) _).alloc (by simp) _).alloc (by simp; omega) _
theorem blank_yes {c : Nat} (h : blankC c = true) : c = 32 ∨ c = 9 := by simpa [blankC] using h
theorem blank_not {c : Nat} (h : blankC c = false) : c ≠ 32 ∧ c ≠ 9 := by simpa [blankC] using h
theorem ieq_t {c d : Nat} (h : c = d) : ((c : Int) == (d : Int)) = true := by simp [h]
theorem ieq_f {c d : Nat} (h : c ≠ d) : ((c : Int) == (d : Int)) = false := by simp; omega
theorem ine_f {c d : Nat} (h : c = d) : ((c : Int) != (d : Int)) = false := by simp [h]
theorem ine_t {c d : Nat} (h : c ≠ d) : ((c : Int) != (d : Int)) = true := by simp; omega
set_option maxRecDepth 1000000 in
set_option maxHeartbeats 3200000 in
theorem rsplit_list (no : Nat) (l : List UInt8) (w : World) (res : SRes) (HRES : Hid (splitL l = res)) (hl : l.length ≤ 4611686018427387904) :
    Calls Try.prog 33 #[.string ⟨l.toArray⟩, .int .i64 no] w (SplitPost w no res) := by
  obtain ⟨D, hD⟩ : ∃ D, upTo at35 l 0 = D := ⟨_, rfl⟩
  obtain ⟨t, ht⟩ : ∃ t, bare l = t := ⟨_, rfl⟩
  have hDl : D ≤ l.length := by rw [← hD]; exact upTo_le _ _ _ (Nat.zero_le _)
  have HTD : Hid (t = l.take D) := by rw [← ht, ← hD]; exact Lib.hid rfl
  have htD : t.length = D := by rw [HTD.out, List.length_take]; omega
  have HBT : Hid (∀ i, i < D → by8 t i = by8 l i) := by rw [HTD.out]; exact Lib.hid (fun i hi => by8_take l D i hi)
  have HS : Hid (scan t 0 [] [] = res) := by rw [← ht]; exact HRES
  have HD0 : Hid (∀ i, i < D → at35 (by8 l i) = false) := by rw [← hD]; exact Lib.hid (fun i hi => upTo_before _ _ _ 0 i rfl (Nat.zero_le _) hi)
  have HD1 : Hid (D < l.length → at35 (by8 l D) = true) := by rw [← hD]; exact Lib.hid (upTo_at _ _ _ 0 rfl)
  clear ht hD
  have hgb := get_by8 l
  go_enter Try.func33, Try.ntmps33
  go_upto_block 0 with (fail)
  have HST := Lib.hid (SplR.first2 w no 68 39 68)
  obtain ⟨wz, HWZ⟩ : ∃ wz, Hid ((((w.alloc (.cells #[.int .i64 0, .slice none 0 0, .slice none 0 0] 68)).alloc (.cells #[.int .i64 0, .int .i64 0, .int .i64 0] 39)).alloc (.cells #[.int .i64 no, .slice none 0 0, .slice none 0 0] 68)) = wz) := ⟨_, rfl⟩
  rw [HWZ.out] at HST ⊢
  obtain ⟨H, HH⟩ : ∃ H, Hid (w.heap.size = H) := ⟨_, rfl⟩
  obtain ⟨K, HK⟩ : ∃ K, Hid (w.heap.size + 1 = K) := ⟨_, rfl⟩
  obtain ⟨L, HL⟩ : ∃ L, Hid (w.heap.size + 2 = L) := ⟨_, rfl⟩
  rw [show w.heap.size + 1 + 1 = L from HL.out, HK.out, HH.out]
  clear HWZ
  go_cut [7] (fun j wx => j = .int .i64 D ∧ wz = wx)
  case first =>
    go_wp2_with fail
    go_loop [7] (fun j => ∃ q : Nat, j = .int .i64 q ∧ q ≤ D) (fun j => l.length - (intOf j).toNat)
    case atStart => exact ⟨0, rfl, Nat.zero_le _⟩
    case round =>
     obtain ⟨q, rfl, hq⟩ := hrel
     have hq8 := by8_le l q
     have q0 : (0 : Int) ≤ (q : Int) := by omega
     by_cases hqD : q < D
     · have hne : by8 l q ≠ 35 := by have := HD0.out q hqD; simpa [at35] using this
       have q1 : (q : Int) < (l.length : Int) := by omega
       have hdq : decide (q < l.length) = true := decide_eq_true (by omega)
       have hd35 : ((by8 l q : Int) != 35) = true := ine_t hne
       clear hne
       go_wp2_with fail
       go_round
       case rel => exact ⟨q + 1, by go_num, by omega⟩
       case measure => simp [intOf]; omega
     · obtain rfl : q = D := by omega
       clear hqD hq
       by_cases hqt : q < l.length
       case' pos =>
         have he : by8 l q = 35 := by have := HD1.out hqt; simpa [at35] using this
         have q1 : (q : Int) < (l.length : Int) := by omega
         have hdq : decide (q < l.length) = true := decide_eq_true hqt
         have hd35 : ((by8 l q : Int) != 35) = false := ine_f he
         clear he
       case' neg =>
         have hdq : decide (q < l.length) = false := decide_eq_false hqt
       all_goals
        go_wp2_with fail
        go_meet
        exact ⟨rfl, rfl⟩
  case rest =>
    obtain ⟨rfl, rfl⟩ := hcut
    clear HD0 HD1
    go_wp2_with fail
    go_loopw [8] (fun i wr => ∃ (k : Nat) (ws : List (List UInt8)) (cs : List Nat) (wv cv : Value), i = .int .i64 k ∧ k ≤ D ∧ scan t k ws cs = res ∧ SplR w no ws cs wv cv wr ∧ ws.length = cs.length ∧ ws.length ≤ 20) (fun i _ => t.length - (intOf i).toNat)
    case atStart => exact ⟨0, [], [], _, _, rfl, Nat.zero_le _, HS.out, HST.out, rfl, by simp⟩
    case round =>
      obtain ⟨k, ws, cs, wv, cv, rfl, hk, hsc, hR, hl1, hl2⟩ := hrel
      obtain ⟨wa, wcp, rfl⟩ := own_shape hR.rw_
      obtain ⟨ca, cc, rfl⟩ := own_shape hR.rc
      have HSC := Lib.hid hsc
      have HR := Lib.hid hR
      have HL1 := Lib.hid hl1
      clear hsc hR HST HS hl1
      have hk8 := by8_le l k
      by_cases hlt : k < t.length
      · have k0 : (0 : Int) ≤ (k : Int) := by omega
        have k1 : (k : Int) < (l.length : Int) := by omega
        have hdk : decide (k < D) = true := decide_eq_true (by omega)
        cases hbl : blankC (by8 t k) with
        | true =>
          have HBL := Lib.hid hbl
          have hb2 := blank_yes hbl
          rw [HBT.out k (by omega)] at hb2
          clear hbl
          by_cases h32 : by8 l k = 32
          case' pos =>
            have hd1 : ((by8 l k : Int) == 32) = true := ieq_t h32
          case' neg =>
            have hd1 : ((by8 l k : Int) == 32) = false := ieq_f h32
            have hd2 : ((by8 l k : Int) == 9) = true := ieq_t (hb2.resolve_left h32)
          all_goals
            clear h32 hb2
            go_wp2_with fail
            go_roundw
            case rel => exact ⟨k + 1, ws, cs, _, _, by go_num, by omega, by rw [← HSC.out, scan_blank t k ws cs hlt HBL.out], HR.out, HL1.out, hl2⟩
            case measure => simp [intOf]; omega
        | false =>
          have HBL := Lib.hid hbl
          have HGT := Lib.hid (blank_end t k hlt hbl)
          have HLE := Lib.hid (upTo_le blankC t k (by omega))
          have HEB : Hid (∀ i, k ≤ i → i < upTo blankC t k → blankC (by8 t i) = false) := Lib.hid (fun i h1 h2 => upTo_before blankC t _ k i rfl h1 h2)
          have HEA : Hid (upTo blankC t k < t.length → blankC (by8 t (upTo blankC t k)) = true) := Lib.hid (upTo_at blankC t _ k rfl)
          obtain ⟨E, hE⟩ : ∃ E, upTo blankC t k = E := ⟨_, rfl⟩
          rw [hE] at HGT HLE HEB HEA
          have HE := Lib.hid hE
          have e0 : k < E := HGT.out
          have e1 : E ≤ t.length := HLE.out
          clear hbl hE HGT HLE
          have hb2 := blank_not HBL.out
          rw [HBT.out k (by omega)] at hb2
          have hd1 : ((by8 l k : Int) == 32) = false := ieq_f hb2.1
          have hd2 : ((by8 l k : Int) == 9) = false := ieq_f hb2.2
          clear hb2
          go_upto_block 4 with (fail)
          go_cut [9] (fun j wx => j = .int .i64 E ∧ wr = wx)
          case first =>
            go_wp2_with fail
            go_loop [9] (fun j => ∃ q : Nat, j = .int .i64 q ∧ k ≤ q ∧ q ≤ E) (fun j => l.length - (intOf j).toNat)
            case atStart => exact ⟨k, rfl, Nat.le_refl _, by omega⟩
            case round =>
              obtain ⟨q, rfl, hq0, hq1⟩ := hrel
              have hq8 := by8_le l q
              have q0 : (0 : Int) ≤ (q : Int) := by omega
              by_cases hqE : q < E
              · have hb2 := blank_not (HEB.out q hq0 hqE)
                rw [HBT.out q (by omega)] at hb2
                have hq2 : ((by8 l q : Int) != 32) = true := ine_t hb2.1
                have hq3 : ((by8 l q : Int) != 9) = true := ine_t hb2.2
                have q1 : (q : Int) < (l.length : Int) := by omega
                have hdq : decide (q < D) = true := decide_eq_true (by omega)
                clear hb2
                go_wp2_with fail
                go_round
                case rel => exact ⟨q + 1, by go_num, by omega, by omega⟩
                case measure => simp [intOf]; omega
              · obtain rfl : q = E := by omega
                clear hqE hq0 hq1
                by_cases hqt : q < D
                · have hb2 := blank_yes (HEA.out (by omega))
                  rw [HBT.out q hqt] at hb2
                  have q1 : (q : Int) < (l.length : Int) := by omega
                  have hdq : decide (q < D) = true := decide_eq_true hqt
                  by_cases h32 : by8 l q = 32
                  case' pos =>
                    have hq2 : ((by8 l q : Int) != 32) = false := ine_f h32
                  case' neg =>
                    have hq2 : ((by8 l q : Int) != 32) = true := ine_t h32
                    have hq3 : ((by8 l q : Int) != 9) = false := ine_f (hb2.resolve_left h32)
                  all_goals
                    clear h32 hb2
                    go_wp2_with fail
                    go_meet
                    exact ⟨rfl, rfl⟩
                · have hdq : decide (q < D) = false := decide_eq_false hqt
                  go_wp2_with fail
                  go_meet
                  exact ⟨rfl, rfl⟩
          case rest =>
            obtain ⟨rfl, rfl⟩ := hcut
            have hq8 := by8_le l E
            have q0 : (0 : Int) ≤ (E : Int) := by omega
            have c0 := HR.out.v6.get 0 rfl
            have c1 := HR.out.v6.get 1 rfl
            have c2 := HR.out.v6.get 2 rfl
            rw [HL.out] at c0 c1 c2
            have hz := HR.out.three
            by_cases hlong : ws.length = 20 ∨ 80 < E - k
            · have HX := Lib.hid (scan_long t k ws cs hlt HBL.out (by rw [HE.out]; exact hlong))
              have f0 := HR.out.v4.get 0 rfl
              have f1 := HR.out.v4.get 1 rfl
              have f2 := HR.out.v4.get 2 rfl
              have f3 := HR.out.v5.get 0 rfl
              have f4 := HR.out.v5.get 1 rfl
              have f5 := HR.out.v5.get 2 rfl
              have z0 := HR.out.v4.free
              have z1 := HR.out.v5.free
              have n1 : ¬ H = K := by have := HH.out; have := HK.out; omega
              have n2 : ¬ K = H := by omega
              rw [HH.out] at f0 f1 f2 z0
              rw [HK.out] at f3 f4 f5 z1
              have hH : w.heap.size ≤ H := by have := HH.out; omega
              have hK : w.heap.size ≤ K := by have := HK.out; omega
              by_cases h20 : ws.length = 20
              · have hd22 : decide ((20 : Int) ≤ (ws.length : Int)) = true := decide_eq_true (by omega)
                have hd23 : decide (20 ≤ ws.length) = true := decide_eq_true (by omega)
                have H20 := Lib.hid h20
                clear h20 hlong
                go_wp2_with fail
                refine bodyPost_ret (v := .tuple #[.agg #[.int .i64 0, .slice none 0 0, .slice none 0 0], .agg #[.int .i64 2, .int .i64 no, .int .i64 ((k : Int) + 1)]]) (by simp [results, Try.results33, go_sem, f0, f1, f2, f3, f4, f5]) rfl (split_bad (by rw [← HSC.out, HX.out]) (by simp) ?_)
                exact (((((HR.out.be.setCell hH _).setCell hH _).setCell hH _).setCell hK _).setCell hK _).setCell hK _
              · have hd22 : decide ((20 : Int) ≤ (ws.length : Int)) = false := decide_eq_false (by omega)
                have hd23 : decide (20 ≤ ws.length) = false := decide_eq_false (by omega)
                have hd80 : decide (80 < E - k) = true := decide_eq_true (by omega)
                have hd81 : decide ((80 : Int) < (E : Int) - (k : Int)) = true := decide_eq_true (by omega)
                have H20 := Lib.hid h20
                clear h20 hlong
                go_wp2_with fail
                refine bodyPost_ret (v := .tuple #[.agg #[.int .i64 0, .slice none 0 0, .slice none 0 0], .agg #[.int .i64 2, .int .i64 no, .int .i64 ((k : Int) + 1)]]) (by simp [results, Try.results33, go_sem, f0, f1, f2, f3, f4, f5]) rfl (split_bad (by rw [← HSC.out, HX.out]) (by simp) ?_)
                exact (((((HR.out.be.setCell hH _).setCell hH _).setCell hH _).setCell hK _).setCell hK _).setCell hK _
            · have hd22 : decide ((20 : Int) ≤ (ws.length : Int)) = false := decide_eq_false (by omega)
              have hd23 : decide (20 ≤ ws.length) = false := decide_eq_false (by omega)
              have hd81 : decide ((80 : Int) < (E : Int) - (k : Int)) = false := decide_eq_false (by omega)
              have HNL := Lib.hid hlong
              clear hlong
              go_wp2_with fail
              clear c0 c1 c2
              have HB0 := Lib.hid (upTo_ge badC (t.take E) k)
              have HB1 : Hid (upTo badC (t.take E) k ≤ E) := Lib.hid (by have := upTo_le badC (t.take E) k (by rw [List.length_take]; omega); rw [List.length_take] at this; omega)
              have HB2 : Hid (∀ i, k ≤ i → i < upTo badC (t.take E) k → badC (by8 t i) = false) := Lib.hid (fun i h1 h2 => by
                have := upTo_before badC (t.take E) _ k i rfl h1 h2
                rwa [by8_take t E i (by have := HB1.out; omega)] at this)
              have HB3 : Hid (upTo badC (t.take E) k < E → badC (by8 t (upTo badC (t.take E) k)) = true) := Lib.hid (fun h1 => by
                have := upTo_at badC (t.take E) _ k rfl (by rw [List.length_take]; omega)
                rwa [by8_take t E _ h1] at this)
              obtain ⟨B, hB⟩ : ∃ B, upTo badC (t.take E) k = B := ⟨_, rfl⟩
              rw [hB] at HB0 HB1 HB2 HB3
              have HB := Lib.hid hB
              have b0 : k ≤ B := HB0.out
              have b1 : B ≤ E := HB1.out
              clear hB HB0 HB1
              go_loop [10] (fun j => ∃ i : Nat, j = .int .i64 i ∧ k ≤ i ∧ i ≤ B) (fun j => t.length - (intOf j).toNat)
              case atStart => exact ⟨k, rfl, Nat.le_refl _, b0⟩
              case round =>
                obtain ⟨i, rfl, hi0, hi1⟩ := hrel
                have hi8 := by8_le l i
                have i0 : (0 : Int) ≤ (i : Int) := by omega
                by_cases hiB : i < B
                · have hbc := HB2.out i hi0 hiB
                  rw [HBT.out i (by omega)] at hbc
                  have hr : 33 ≤ by8 l i ∧ by8 l i ≤ 126 := by simp [badC] at hbc; omega
                  obtain ⟨r0, r1⟩ := hr
                  have i1 : (i : Int) < (l.length : Int) := by omega
                  have hdi : decide (i < E) = true := decide_eq_true (by omega)
                  have hd33 : decide (by8 l i < 33) = false := decide_eq_false (by omega)
                  have hd34 : decide ((by8 l i : Int) < 33) = false := decide_eq_false (by omega)
                  have hd126 : decide ((126 : Int) < (by8 l i : Int)) = false := decide_eq_false (by omega)
                  clear hbc
                  go_wp2_with fail
                  go_round
                  case rel => exact ⟨i + 1, by go_num, by omega, by omega⟩
                  case measure => simp [intOf]; omega
                · obtain rfl : i = B := by omega
                  clear hiB hi0 hi1
                  by_cases hiq : i < E
                  · have hbc := HB3.out hiq
                    rw [HBT.out i (by omega)] at hbc
                    have HX := Lib.hid (scan_bad t k ws cs hlt HBL.out (by rw [HE.out]; exact HNL.out) (by rw [HE.out, HB.out]; exact hiq))
                    rw [HE.out, HB.out] at HX
                    have i1 : (i : Int) < (l.length : Int) := by omega
                    have hdi : decide (i < E) = true := decide_eq_true hiq
                    have f0 := HR.out.v4.get 0 rfl
                    have f1 := HR.out.v4.get 1 rfl
                    have f2 := HR.out.v4.get 2 rfl
                    have f3 := HR.out.v5.get 0 rfl
                    have f4 := HR.out.v5.get 1 rfl
                    have f5 := HR.out.v5.get 2 rfl
                    have z0 := HR.out.v4.free
                    have z1 := HR.out.v5.free
                    have n1 : ¬ H = K := by have := HH.out; have := HK.out; omega
                    have n2 : ¬ K = H := by omega
                    rw [HH.out] at f0 f1 f2 z0
                    rw [HK.out] at f3 f4 f5 z1
                    have hH : w.heap.size ≤ H := by have := HH.out; omega
                    have hK : w.heap.size ≤ K := by have := HK.out; omega
                    by_cases h33 : by8 l i < 33
                    · have hd34 : decide ((by8 l i : Int) < 33) = true := decide_eq_true (by omega)
                      clear hbc
                      go_wp2_with fail
                      refine bodyPost_ret (v := .tuple #[.agg #[.int .i64 0, .slice none 0 0, .slice none 0 0], .agg #[.int .i64 1, .int .i64 no, .int .i64 ((i : Int) + 1)]]) (by simp [results, Try.results33, go_sem, f0, f1, f2, f3, f4, f5]) rfl (split_bad (by rw [← HSC.out, HX.out]) (by simp) ?_)
                      exact (((((HR.out.be.setCell hH _).setCell hH _).setCell hH _).setCell hK _).setCell hK _).setCell hK _
                    · have h126 : 126 < by8 l i := by simp [badC] at hbc; omega
                      have hd34 : decide ((by8 l i : Int) < 33) = false := decide_eq_false (by omega)
                      have hd126 : decide ((126 : Int) < (by8 l i : Int)) = true := decide_eq_true (by omega)
                      clear hbc
                      go_wp2_with fail
                      refine bodyPost_ret (v := .tuple #[.agg #[.int .i64 0, .slice none 0 0, .slice none 0 0], .agg #[.int .i64 1, .int .i64 no, .int .i64 ((i : Int) + 1)]]) (by simp [results, Try.results33, go_sem, f0, f1, f2, f3, f4, f5]) rfl (split_bad (by rw [← HSC.out, HX.out]) (by simp) ?_)
                      exact (((((HR.out.be.setCell hH _).setCell hH _).setCell hH _).setCell hK _).setCell hK _).setCell hK _
                  · obtain rfl : i = E := by omega
                    have hdi : decide (i < i) = false := decide_eq_false (by omega)
                    have hdi2 : decide ((i : Int) < (i : Int)) = false := decide_eq_false (by omega)
                    have HX := Lib.hid (scan_word t k ws cs hlt HBL.out (by rw [HE.out]; exact HNL.out) (by rw [HE.out, HB.out]; omega))
                    rw [HE.out] at HX
                    have HTT : Hid (l.take i = t.take i) := Lib.hid (by rw [HTD.out, List.take_take, Nat.min_eq_left (by omega)])
                    clear hiq hq8
                    have c0 := HR.out.v6.get 0 rfl
                    have c1 := HR.out.v6.get 1 rfl
                    have c2 := HR.out.v6.get 2 rfl
                    have z6 := HR.out.v6.free
                    have hLt := HR.out.v6.lt
                    have hneL : some (w.heap.size + 2) ≠ (Value.slice wa ws.length wcp).ownBlock := fun e => by have := (row_block HR.out.rw_ e.symm).1; omega
                    rw [HL.out] at c0 c1 c2 z6 hLt hneL
                    obtain ⟨i0s, his, hs1, hs2, hs3⟩ := info_parts' info_str
                    have HI := Lib.hid his
                    have HI1 := Lib.hid hs1
                    have HI2 := Lib.hid hs2
                    have HI3 := Lib.hid hs3
                    have k2 : (k : Int) ≤ (i : Int) := by omega
                    have i2 : (i : Int) ≤ (l.length : Int) := by omega
                    have HNEL := Lib.hid hneL
                    clear his hs1 hs2 hs3 hneL
                    go_wp2_with fail
                    go_region_law ((refine step_append_lies _ (by rfl) _ _ _ (by rfl) (w.heap.size + 3) 9 i0s (.string ByteArray.empty) 1 16 Try.underlying22 HI.out HI1.out HI2.out HI3.out rfl (by omega) (.slice wa ws.length wcp) ws.length (strVals ws) (by rfl) ((HR.out.rw_.alloc _).drew) ⟨wr.heap.size, 0, none⟩ 1 1 [.string ((ByteArray.mk l.toArray).extract k i)] (by rfl) (by rfl) (World.news_of_block (cs := #[.string ((ByteArray.mk l.toArray).extract k i)]) (t := 9) (fr := (0, 0)) (heap_alloc_new wr _)) (by simp [Value.oneCell']) (by omega) (by unfold maxLen; omega) (by omega) (by simp; have := HR.out.three; omega) (wr.heap.size + 1) (by simp) ?_; intro g cap w1 hown1 hgrow hat hlt1; obtain ⟨q1, q2⟩ := far_one hLt hgrow HNEL.out c1 (z6 1)))
                    all_goals
                      rw [ext_list l k i, HTT.out] at hown1
                      have HR2 := Lib.hid ((HR.out.after (wa := (wr.alloc _).drew) (Below.drew ((Below.refl _ _).alloc (Nat.le_refl _) _))).words hown1 hgrow (by rcases hat with h | h; exact .inl h; exact .inr (by rw [h]; show _ = (wr.alloc _).heap.size; simp)))
                      rw [HL.out] at HR2
                      obtain ⟨w2, HW2⟩ : ∃ w2, Hid (w1.setCell ⟨L, 1, none⟩ (.slice (some ⟨g, 0, none⟩) (ws.length + 1) cap) = w2) := ⟨_, rfl⟩
                      rw [HW2.out] at HR2 ⊢
                      clear hown1 hgrow hat hlt1 q1 q2 c0 c1 c2 z6 hLt HNEL HI HI1 HI2 HI3 HW2
                      obtain ⟨i0n, hin, hn1, hn2, hn3⟩ := info_parts' info_int
                      have HI := Lib.hid hin
                      have HI1 := Lib.hid hn1
                      have HI2 := Lib.hid hn2
                      have HI3 := Lib.hid hn3
                      have c2 := HR2.out.v6.get 2 rfl
                      have z6 := HR2.out.v6.free
                      have hLt := HR2.out.v6.lt
                      have hneL : some (w.heap.size + 2) ≠ (Value.slice ca cs.length cc).ownBlock := fun e => by have := (row_block HR2.out.rc e.symm).1; omega
                      rw [HL.out] at c2 z6 hLt hneL
                      have HNEL := Lib.hid hneL
                      clear hin hn1 hn2 hn3 hneL
                      have hcl : cs.length ≤ 20 := by have := HL1.out; omega
                      go_wp2_with (at_builtin; refine wpList_append_lies _ rfl _ _ 23 rfl (w.heap.size + 3) 3 i0n (.int .i64 0) 1 8 Try.underlying23 HI.out HI1.out HI2.out HI3.out rfl (by decide) (.slice ca cs.length cc) cs.length (natVals cs) rfl (HR2.out.rc.alloc _) ⟨w2.heap.size, 0, none⟩ 1 1 [.int .i64 ((k : Int) + 1)] rfl rfl ?_ ?_ ?_ ?_ ?_ ?_ (w2.heap.size + 1) ?_ ?_)
                      · exact cell_one_new _ _ _
                      · intro u hu; rw [List.mem_singleton] at hu; subst hu; rfl
                      · omega
                      · unfold maxLen; omega
                      · omega
                      · have := HR2.out.three; simp; omega
                      · simp
                      intro g2 cap2 w3 hown2 hgrow2 hat2 hlt2
                      obtain ⟨q1, q2⟩ := far_one' hLt hgrow2 HNEL.out c2 (z6 2)
                      have HR3 := Lib.hid ((HR2.out.after (wa := w2.alloc _) ((Below.refl _ _).alloc (Nat.le_refl _) _)).cols (x := k + 1) (by simpa using hown2) hgrow2 (by rcases hat2 with h | h; exact .inl h; exact .inr (by rw [h]; simp)))
                      rw [HL.out] at HR3
                      clear hown2 hgrow2 hat2 hlt2 c2 HI HI1 HI2 HI3 z6
                      go_wp2_with fail
                      go_roundw
                      case rel => exact ⟨i, _, _, _, _, rfl, by omega, by rw [← HSC.out, HX.out], HR3.out, by simp [HL1.out], by simp; have := HNL.out; omega⟩
                      case measure => simp [intOf]; omega
      · have hdk : decide (k < D) = false := decide_eq_false (by omega)
        have HX := Lib.hid (scan_end t k ws cs hlt)
        have c0 := HR.out.v6.get 0 rfl
        have c1 := HR.out.v6.get 1 rfl
        have c2 := HR.out.v6.get 2 rfl
        rw [HL.out] at c0 c1 c2
        have f0 := HR.out.v4.get 0 rfl
        have f1 := HR.out.v4.get 1 rfl
        have f2 := HR.out.v4.get 2 rfl
        have f3 := HR.out.v5.get 0 rfl
        have f4 := HR.out.v5.get 1 rfl
        have f5 := HR.out.v5.get 2 rfl
        have z0 := HR.out.v4.free
        have z1 := HR.out.v5.free
        have n1 : ¬ H = K := by have := HH.out; have := HK.out; omega
        have n2 : ¬ K = H := by omega
        rw [HH.out] at f0 f1 f2 z0
        rw [HK.out] at f3 f4 f5 z1
        have hH : w.heap.size ≤ H := by have := HH.out; omega
        have hK : w.heap.size ≤ K := by have := HK.out; omega
        have n3 : ¬ H = L := by have := HH.out; have := HL.out; omega
        have n4 : ¬ L = H := by omega
        have n5 : ¬ K = L := by have := HK.out; have := HL.out; omega
        have n6 : ¬ L = K := by omega
        go_wp2_with fail
        refine bodyPost_ret (v := .tuple #[.agg #[.int .i64 no, .slice wa ws.length wcp, .slice ca cs.length cc], .agg #[.int .i64 0, .int .i64 0, .int .i64 0]]) (by simp [results, Try.results33, go_sem, f0, f1, f2, f3, f4, f5]) rfl (split_ok (by rw [← HSC.out, HX.out]) rfl ?_ ?_ ?_)
        · have hne : ∀ b, b < w.heap.size + 3 → (Value.slice wa ws.length wcp).ownBlock ≠ some b := fun b hb e => by have := (row_block HR.out.rw_ e).1; omega
          have h4 : (Value.slice wa ws.length wcp).ownBlock ≠ some H := hne H (by have := HH.out; omega)
          have h5 : (Value.slice wa ws.length wcp).ownBlock ≠ some K := hne K (by have := HK.out; omega)
          exact own_base (row_set (row_set (row_set (row_set (row_set (row_set HR.out.rw_ h4 _) h4 _) h4 _) h5 _) h5 _) h5 _) (by omega)
        · have hne : ∀ b, b < w.heap.size + 3 → (Value.slice ca cs.length cc).ownBlock ≠ some b := fun b hb e => by have := (row_block HR.out.rc e).1; omega
          have h4 : (Value.slice ca cs.length cc).ownBlock ≠ some H := hne H (by have := HH.out; omega)
          have h5 : (Value.slice ca cs.length cc).ownBlock ≠ some K := hne K (by have := HK.out; omega)
          exact own_base (row_set (row_set (row_set (row_set (row_set (row_set HR.out.rc h4 _) h4 _) h4 _) h5 _) h5 _) h5 _) (by omega)
        · exact (((((HR.out.be.setCell hH _).setCell hH _).setCell hH _).setCell hK _).setCell hK _).setCell hK _
end Go.Proofs.Ytfhicmjfifpjkaa
