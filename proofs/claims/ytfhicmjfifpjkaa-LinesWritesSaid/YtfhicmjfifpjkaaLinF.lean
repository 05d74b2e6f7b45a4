/- The walk of the reference's ReadMost. -/
import Derived.Test.YtfhicmjfifpjkaaLinE
import Derived.Test.YtfhicmjfifpjkaaLinD
namespace Go.Proofs.Ytfhicmjfifpjkaa
open Go.RowKit
set_option linter.unusedVariables false
theorem upTo_drop (p : Nat → Bool) (l : List UInt8) (k : Nat) : upTo p l k = k + upTo p (l.drop k) 0 := by simp [upTo]
set_option maxRecDepth 1000000 in
set_option maxHeartbeats 3200000 in
theorem rread_list (l : List UInt8) (most : Nat) (w : World) (res : RRes) (HRES : Hid (readL most l 1 [] = res)) (hl : l.length ≤ 1099511627776) (hm : most ≤ 4611686018427387904) :
    Calls Try.prog 15 #[.string ⟨l.toArray⟩, .int .i64 most] w (ReadPost w res) := by
  have hgb := get_by8 l
  go_enter Try.func15, Try.ntmps15
  go_wp2_with fail
  obtain ⟨H, HH⟩ : ∃ H, Hid (w.heap.size = H) := ⟨_, rfl⟩
  have HST : Hid (ReadRel w 68 (.slice none 0 0) [] (w.alloc (.cells #[.int .i64 0, .int .i64 0, .int .i64 0] 39))) :=
    Lib.hid ⟨varAt_new w #[.int .i64 0, .int .i64 0, .int .i64 0] _ _ rfl, ownOf_nil _ _ _ _ _ _, (Below.refl _ _).alloc (Nat.le_refl _) _⟩
  rw [HH.out]
  go_loopw [6, 7, 8] (fun out no at_ wr => ∃ (L : List LineD) (n k : Nat), no = .int .i64 n ∧ at_ = .int .i64 k ∧ readL most (l.drop k) n L = res ∧ ReadRel w 68 out L wr ∧ 1 ≤ n ∧ n ≤ k + 1 ∧ k ≤ l.length + 1 ∧ L.length + 1 ≤ n) (fun _ _ at_ _ => l.length + 1 - (intOf at_).toNat)
  case atStart => exact ⟨[], 1, 0, rfl, rfl, HRES.out, HST.out, by omega, by omega, by omega, by simp⟩
  case round =>
    obtain ⟨L, n, k, rfl, rfl, hrd, hR, hn1, hn2, hk, hn3⟩ := hrel
    obtain ⟨oa, oc, rfl⟩ := hR.shape
    have HRD := Lib.hid hrd
    have HR := Lib.hid hR
    clear hrd hR HST
    have f3 := HR.out.v5.get 0 rfl
    have f4 := HR.out.v5.get 1 rfl
    have f5 := HR.out.v5.get 2 rfl
    have z1 := HR.out.v5.free
    have hlt5 := HR.out.v5.lt
    have hH : w.heap.size ≤ H := by have := HH.out; omega
    rw [HH.out] at f3 f4 f5 z1 hlt5
    by_cases hkl : l.length ≤ k
    · have HX : Hid (readL most (l.drop k) n L = .ok L) := Lib.hid (by rw [List.drop_eq_nil_of_le hkl, readL_nil])
      have hdk : decide (k < l.length) = false := decide_eq_false (by omega)
      have hF : H < w.heap.size + 1 := by have := HH.out; omega
      go_wp2_with fail
      refine bodyPost_ret (v := .tuple #[.slice oa L.length oc, .agg #[.int .i64 0, .int .i64 0, .int .i64 0]]) (by simp [results, Try.results15, go_sem, f3, f4, f5]) rfl (read_ok (by rw [← HRD.out, HX.out]) rfl ?_ ?_)
      · refine (OwnOf.fix (HR.out.own.near (((near_setCell _ _ _ ?_).trans (near_setCell _ _ _ ?_)).trans (near_setCell _ _ _ ?_)) (fun b e hf => ?_)) (fun b e hf => ?_)).near (Near.refl _ _) (fun b _ hb => Nat.lt_succ_of_lt hb)
        · exact hF
        · exact hF
        · exact hF
        · have := HR.out.far b e; omega
        · have := HR.out.far b e; omega
      · exact ((HR.out.be.setCell hH _).setCell hH _).setCell hH _
    · have hr : l.drop k ≠ [] := by intro e; have := congrArg List.length e; simp at this; omega
      have hdk : decide (k < l.length) = true := decide_eq_true (by omega)
      have HE0 := Lib.hid (upTo_ge at10 l k)
      have HE1 := Lib.hid (upTo_le at10 l k (by omega))
      have HEB : Hid (∀ i, k ≤ i → i < upTo at10 l k → at10 (by8 l i) = false) := Lib.hid (fun i h1 h2 => upTo_before at10 l _ k i rfl h1 h2)
      have HEA : Hid (upTo at10 l k < l.length → at10 (by8 l (upTo at10 l k)) = true) := Lib.hid (upTo_at at10 l _ k rfl)
      have HUD := Lib.hid (upTo_drop at10 l k)
      obtain ⟨E, hE⟩ : ∃ E, upTo at10 l k = E := ⟨_, rfl⟩
      rw [hE] at HE0 HE1 HEB HEA HUD
      have e0 : k ≤ E := HE0.out
      have e1 : E ≤ l.length := HE1.out
      clear hE HE0 HE1
      have k0 : (0 : Int) ≤ (k : Int) := by omega
      go_upto_block 2 with (fail)
      go_cut [9] (fun j wx => j = .int .i64 E ∧ wr = wx)
      case first =>
        go_wp2_with fail
        go_loop [9] (fun j => ∃ q : Nat, j = .int .i64 q ∧ k ≤ q ∧ q ≤ E) (fun j => l.length - (intOf j).toNat)
        case atStart => exact ⟨k, rfl, Nat.le_refl _, e0⟩
        case round =>
          obtain ⟨q, rfl, hq0, hq1⟩ := hrel
          have hq8 := by8_le l q
          have q0 : (0 : Int) ≤ (q : Int) := by omega
          by_cases hqE : q < E
          · have hne : by8 l q ≠ 10 := by have := HEB.out q hq0 hqE; simpa [at10] using this
            have q1 : (q : Int) < (l.length : Int) := by omega
            have hdq : decide (q < l.length) = true := decide_eq_true (by omega)
            have hd10 : ((by8 l q : Int) != 10) = true := ine_t hne
            clear hne
            go_wp2_with fail
            go_round
            case rel => exact ⟨q + 1, by go_num, by omega, by omega⟩
            case measure => simp [intOf]; omega
          · obtain rfl : q = E := by omega
            clear hqE hq0 hq1
            by_cases hqt : q < l.length
            case' pos =>
              have he : by8 l q = 10 := by have := HEA.out hqt; simpa [at10] using this
              have q1 : (q : Int) < (l.length : Int) := by omega
              have hdq : decide (q < l.length) = true := decide_eq_true hqt
              have hd10 : ((by8 l q : Int) != 10) = false := ine_f he
              clear he
            case' neg =>
              have hdq : decide (q < l.length) = false := decide_eq_false hqt
            all_goals
              go_wp2_with fail
              go_meet
              exact ⟨rfl, rfl⟩
      case rest =>
       obtain ⟨rfl, rfl⟩ := hcut
       by_cases hmo : most < n
       · have HX := Lib.hid (readL_most most (l.drop k) n L hr hmo)
         have hdm : decide (most < n) = true := decide_eq_true hmo
         clear hr
         go_wp2_with fail
         refine bodyPost_ret (v := .tuple #[.slice none 0 0, .agg #[.int .i64 2, .int .i64 n, .int .i64 0]]) (by simp [results, Try.results15, go_sem, f3, f4, f5]) rfl (read_bad (by rw [← HRD.out, HX.out]) rfl ?_)
         exact ((HR.out.be.setCell hH _).setCell hH _).setCell hH _
       · have hdm : decide (most < n) = false := decide_eq_false hmo
         have HNE := Lib.hid hr
         have HMO := Lib.hid hmo
         obtain ⟨a, ha⟩ : ∃ a, (l.drop k).take (upTo at10 (l.drop k) 0) = a := ⟨_, rfl⟩
         have HA := Lib.hid ha
         have hu : upTo at10 (l.drop k) 0 = E - k := by have := HUD.out; omega
         have HB : Hid ((l.drop k).drop (upTo at10 (l.drop k) 0 + 1) = l.drop (E + 1)) := Lib.hid (by rw [List.drop_drop, hu]; congr 1; omega)
         have hxt : (ByteArray.mk l.toArray).extract k E = ⟨a.toArray⟩ := by rw [ext_list, List.drop_take, ← hu, ha]
         have hal : a.length ≤ l.length := by rw [← ha, List.length_take, List.length_drop]; omega
         have k2 : (k : Int) ≤ (E : Int) := by omega
         have E2 : (E : Int) ≤ (l.length : Int) := by omega
         clear ha hr hmo hu
         obtain ⟨r2, hr2⟩ : ∃ r2, splitL a = r2 := ⟨_, rfl⟩
         cases r2 with
         | bad c col =>
           have hc := split_code hr2
           have HX := Lib.hid (readL_bad most (l.drop k) n L HNE.out HMO.out (c := c) (col := col) (by rw [HA.out]; exact hr2))
           have HR2 := Lib.hid hr2
           clear hr2
           go_wp2_with fail
           refine (rsplit_list n a _ _ HR2 (by omega)).mono ?_
           rintro e w2 ⟨rfl, hb2⟩
           have v5 := HR.out.v5.after hb2
           have q3 := v5.get 0 rfl
           have q4 := v5.get 1 rfl
           have q5 := v5.get 2 rfl
           have y1 := v5.free
           have hlt6 := v5.lt
           rw [HH.out] at q3 q4 q5 y1 hlt6
           have HBE := Lib.hid (HR.out.be.trans (hb2.mono HR.out.be.size))
           have h5a : H < w2.heap.size + 1 := by omega
           have h5b : ¬ H = w2.heap.size + 1 := by omega
           have h5c : ¬ H = w2.heap.size := by omega
           clear f3 f4 f5 z1 hlt5 v5
           go_wp2_with fail
           go_region
           go_wp2_with fail
           refine bodyPost_ret (v := .tuple #[.slice none 0 0, .agg #[.int .i64 c, .int .i64 n, .int .i64 col]]) (by simp [results, Try.results15, go_sem, q3, q4, q5, h5a, hlt6]) rfl (read_bad (by rw [← HRD.out, HX.out]) rfl ?_)
           exact Below.drew (((((HBE.out.setCell hH _).setCell hH _).setCell hH _).alloc (by have := HBE.out.size; simpa [World.setCell] using this) _).alloc (by have := HBE.out.size; simp [World.setCell]; omega) _)
         | ok ws cs =>
           have HX := Lib.hid (readL_ok most (l.drop k) n L HNE.out HMO.out (ws := ws) (cs := cs) (by rw [HA.out]; exact hr2))
           rw [HB.out] at HX
           have HLN := Lib.hid (split_len hr2)
           have HR2 := Lib.hid hr2
           clear hr2
           go_wp2_with fail
           refine (rsplit_list n a _ _ HR2 (by omega)).mono ?_
           rintro e w2 ⟨wv, cv, rfl, hw2, hc2, hb2⟩
           obtain ⟨wa, wc, rfl⟩ := own_shape hw2
           obtain ⟨ca, cc, rfl⟩ := own_shape hc2
           have HRR := Lib.hid (HR.out.after hb2)
           have HW2 := Lib.hid hw2
           have HC2 := Lib.hid hc2
           clear f3 f4 f5 z1 hlt5 hw2 hc2
           by_cases hws : ws.length = 0
           · have hd0 : decide (0 < ws.length) = false := decide_eq_false (by omega)
             rw [if_pos hws] at HX
             have HWS := Lib.hid hws
             clear hws
             go_wp2_with fail
             go_roundw
             case rel => exact ⟨L, n + 1, E + 1, by go_num, by go_num, by rw [← HRD.out, HX.out], (HRR.out.after ((Below.refl _ _).alloc (Nat.le_refl _) _)).after ((Below.refl _ _).alloc (Nat.le_refl _) _), by omega, by omega, by omega, by omega⟩
             case measure => simp [intOf]; omega
           · have hd0 : decide (0 < ws.length) = true := decide_eq_true (by omega)
             rw [if_neg hws] at HX
             clear hws
             obtain ⟨i0, hi, h1, h2, h3⟩ := info_parts' info_rline
             have HI := Lib.hid hi
             have HI1 := Lib.hid h1
             have HI2 := Lib.hid h2
             have HI3 := Lib.hid h3
             clear hi h1 h2 h3
             have HR4 := Lib.hid (((HRR.out.after ((Below.refl _ _).alloc (Nat.le_refl _) (.cells #[.int .i64 n, .slice wa ws.length wc, .slice ca cs.length cc] 68))).after ((Below.refl _ _).alloc (Nat.le_refl _) (.cells #[.int .i64 0, .int .i64 0, .int .i64 0] 39))).after ((Below.refl _ _).alloc (Nat.le_refl _) (.cells #[.int .i64 n, .slice wa ws.length wc, .slice ca cs.length cc] 68)))
             have HB4 : Hid (Below w2.heap.size w2 (((w2.alloc (.cells #[.int .i64 n, .slice wa ws.length wc, .slice ca cs.length cc] 68)).alloc (.cells #[.int .i64 0, .int .i64 0, .int .i64 0] 39)).alloc (.cells #[.int .i64 n, .slice wa ws.length wc, .slice ca cs.length cc] 68))) := Lib.hid ((((Below.refl _ _).alloc (Nat.le_refl _) _).alloc (by simp) _).alloc (by simp; omega) _)
             have HNW : Hid (Robust LineC (((w2.alloc (.cells #[.int .i64 n, .slice wa ws.length wc, .slice ca cs.length cc] 68)).alloc (.cells #[.int .i64 0, .int .i64 0, .int .i64 0] 39)).alloc (.cells #[.int .i64 n, .slice wa ws.length wc, .slice ca cs.length cc] 68)) (fun b => b < w.heap.size + 1 ∨ (Value.slice oa L.length oc).ownBlock = some b) [.int .i64 n, .slice wa ws.length wc, .slice ca cs.length cc] ⟨n, ws, cs⟩) := Lib.hid (line_robust HW2.out HC2.out HB4.out (fun g hg => by
               rcases hg with hg | hg
               · have := HR.out.v5.lt; omega
               · have := HR.out.far g hg; omega))
             obtain ⟨css, hcl, hcn, hrow, hel⟩ := HR4.out.own
             have HCL := Lib.hid hcl
             have HCN := Lib.hid hcn
             have HROW := Lib.hid hrow
             have HEL := Lib.hid hel
             clear hcl hcn hrow hel
             go_wp2_with (at_builtin; refine wpList_append_lies _ rfl _ _ 37 rfl (w.heap.size + 1) 68 i0 (.agg #[.int .i64 0, .slice none 0 0, .slice none 0 0]) 3 56 Try.underlying37 HI.out HI1.out HI2.out HI3.out rfl (by decide) (.slice oa L.length oc) L.length css.flatten rfl HROW.out ⟨w2.heap.size + 1 + 1, 0, none⟩ 1 1 [.int .i64 n, .slice wa ws.length wc, .slice ca cs.length cc] rfl rfl ?_ ?_ ?_ ?_ ?_ ?_ (w2.heap.size + 3) ?_ ?_)
             · refine World.news_of_block (cs := #[.int .i64 n, .slice wa ws.length wc, .slice ca cs.length cc]) (t := 68) (fr := (0, 0)) ?_
               show (((w2.heap.push _).push _).push _)[_]? = _
               simp only [Array.getElem?_push, Array.size_push]
               rw [if_pos trivial]
             · intro u hu
               simp only [List.mem_cons, List.not_mem_nil, or_false] at hu
               rcases hu with rfl | rfl | rfl <;> rfl
             · omega
             · unfold maxLen; omega
             · omega
             · have := HRR.out.v5.lt; simp; omega
             · simp
             intro g cap w5 hown hgrow hat hlt
             have HNEW := Lib.hid (HR4.out.snoc (x := ⟨n, ws, cs⟩) HNW.out HCL.out HCN.out HEL.out hown hgrow (by rcases hat with h | h; exact .inl h; exact .inr (by rw [h]; simp)))
             clear hown hgrow hat hlt
             go_wp2_with fail
             go_roundw
             case rel => exact ⟨L ++ [⟨n, ws, cs⟩], n + 1, E + 1, by go_num, by go_num, by rw [← HRD.out, HX.out], HNEW.out, by omega, by omega, by omega, by simp; omega⟩
             case measure => simp [intOf]; omega
end Go.Proofs.Ytfhicmjfifpjkaa
