/- The contract of the walk of the reference's Longest, and the walk of NameLongests: for every text and slice of texts it returns true and changes nothing that was there. -/
import Derived.Test.YtolmhigekkoikaaNamI
namespace Go.Proofs.Ytolmhigekkoikaa
open Go.RowKit
set_option linter.unusedVariables false
theorem longTo_yes (s : List UInt8) (ls : List (List UInt8)) (k : Nat) (h : matchL (ls.getD k []) s = true ∧ (longTo s ls k < 0 ∨ weightL (ls.getD (longTo s ls k).toNat []) < weightL (ls.getD k []))) : longTo s ls (k + 1) = k := by rw [longTo, if_pos h]
theorem longTo_no (s : List UInt8) (ls : List (List UInt8)) (k : Nat) (h : ¬ (matchL (ls.getD k []) s = true ∧ (longTo s ls k < 0 ∨ weightL (ls.getD (longTo s ls k).toNat []) < weightL (ls.getD k [])))) : longTo s ls (k + 1) = longTo s ls k := by rw [longTo, if_neg h]
theorem rmatch_q (g l : List UInt8) (v : Bool) (w : World) (n : Nat) (hg : g.length ≤ 4611686018427387903) (hl : l.length ≤ 4611686018427387903) (hv : Hid (matchL g l = v)) :
    Calls Try.prog 18 #[.string ⟨g.toArray⟩, .string ⟨l.toArray⟩] (w.drewN n) fun e w' => e = .returned (.bool v) ∧ ∃ m, w' = (w.drewN n).drewN m :=
  (rmatch_is g l v _ hg hl hv).mono fun e w' h => ⟨h.1, h.2⟩
theorem rweight_q (l : List UInt8) (v : Int) (w : World) (n : Nat) (hl : l.length ≤ 4611686018427387903) (hv : Hid (weightL l = v)) :
    Calls Try.prog 20 #[.string ⟨l.toArray⟩] (w.drewN n) fun e w' => e = .returned (.int .i64 v) ∧ w' = w.drewN n :=
  (rweight_is l v _ hl hv).mono fun e w' h => ⟨h.1, h.2.symm⟩
set_option maxHeartbeats 1600000 in
theorem rlongest_any (s : List UInt8) (v : Value) (ls : List (List UInt8)) (w : World) (hs : s.length ≤ 1000) (hr : ValRow w v (strVals ls)) (hl : ∀ l ∈ ls, l.length ≤ 1000) :
    Calls Try.prog 22 #[.string ⟨s.toArray⟩, v] w fun e w' => e = .returned (.int .i64 (longTo s ls ls.length)) ∧ Below w.heap.size w w' := by
  have hmax := hr.len
  obtain ⟨a, cap, hv⟩ := hr.shape
  rw [strVals_length] at hmax hv
  subst hv
  unfold maxLen at hmax
  have HR := Lib.hid hr
  have HL := Lib.hid hl
  clear hr hl
  go_enter Try.func22, Try.ntmps22
  go_wp2_with fail
  go_loopw [5, 6] (fun o i wr => ∃ k : Nat, k ≤ ls.length ∧ i = .int .i64 k ∧ o = .int .i64 (longTo s ls k) ∧ Drawn w wr) (fun _ i _ => ls.length - (intOf i).toNat)
  case atStart => exact ⟨0, by omega, rfl, rfl, Drawn.refl _⟩
  case round =>
    obtain ⟨k, hk, rfl, rfl, hb⟩ := hrel
    by_cases hlt : k < ls.length
    · obtain ⟨b, off, rfl, hbw, hcell⟩ := valRow_cells HR.out k (by rw [strVals_length]; exact hlt)
      rw [strVals_length] at hcell
      have hcell : ∀ i, i < ls.length → wr.cell? ⟨b, off + i, none⟩ = some (.string ⟨(ls.getD i []).toArray⟩) := fun i hi => by
        obtain ⟨m, rfl⟩ := hb
        rw [← strVals_at ls i hi, ← hcell i hi]
        rfl
      have hc := hcell k hlt
      have hgl := getD_len ls k 1000 HL.out
      have hyes := longTo_yes s ls k
      have hno := longTo_no s ls k
      have hbd := longTo_bd s ls k
      have hk0 : (0 : Int) ≤ (k : Int) := by omega
      have hk1 : (k : Int) < (ls.length : Int) := by omega
      cases hme : matchL (ls.getD k []) s
      · have HS := Lib.hid (hno (by rw [hme]; simp))
        have HM := Lib.hid hme
        clear hyes hno hme hcell
        generalize ls.getD k [] = g at *
        go_wp2_with fail
        go_quiet ((go_at_call 18; exact Calls.quiet_of (rmatch_q g s false _ _ (by omega) (by omega) HM)))
        go_wp2_with fail
        go_roundw
        case rel => exact ⟨k + 1, by omega, by go_num, by rw [HS.out], hb.trans ⟨_, rfl⟩⟩
        case measure => simp [intOf]; omega
      · by_cases hneg : longTo s ls k < 0
        · have HS := Lib.hid (hyes ⟨hme, .inl hneg⟩)
          have HM := Lib.hid hme
          have hd : decide (longTo s ls k < 0) = true := by simpa using hneg
          clear hyes hno hme hcell
          generalize ls.getD k [] = g at *
          generalize longTo s ls k = t at *
          go_wp2_with fail
          go_quiet ((go_at_call 18; exact Calls.quiet_of (rmatch_q g s true _ _ (by omega) (by omega) HM)))
          go_wp2_with fail
          go_roundw
          case rel => exact ⟨k + 1, by omega, by go_num, by rw [HS.out], hb.trans ⟨_, rfl⟩⟩
          case measure => simp [intOf]; omega
        · obtain ⟨j, hj⟩ : ∃ j : Nat, longTo s ls k = j := ⟨(longTo s ls k).toNat, by omega⟩
          have hcj := hcell j (by omega)
          have hgl2 := getD_len ls j 1000 HL.out
          have hd : decide ((j : Int) < 0) = false := by simp
          have hj0 : (0 : Int) ≤ (j : Int) := by omega
          have hj1 : (j : Int) < (ls.length : Int) := by omega
          rw [hj] at hyes hno hbd ⊢
          rw [show ((j : Int)).toNat = j from by omega] at hyes hno
          clear hj hcell
          by_cases hgt : weightL (ls.getD j []) < weightL (ls.getD k [])
          · have HS := Lib.hid (hyes ⟨hme, .inr hgt⟩)
            have HM := Lib.hid hme
            generalize hp : weightL (ls.getD k []) = p at *
            generalize hq : weightL (ls.getD j []) = q at *
            have HP := Lib.hid hp
            have HQ := Lib.hid hq
            have hd2 : decide (q < p) = true := by simpa using hgt
            clear hyes hno hme hp hq
            generalize ls.getD k [] = g at *
            generalize ls.getD j [] = h at *
            go_wp2_with fail
            go_quiet (first | (go_at_call 18; exact Calls.quiet_of (rmatch_q g s true _ _ (by omega) (by omega) HM)) | (go_at_call 20; with_reducible exact Calls.quiet_of_same (rweight_q g p _ _ (by omega) HP)) | (go_at_call 20; with_reducible exact Calls.quiet_of_same (rweight_q h q _ _ (by omega) HQ)))
            go_wp2_with fail
            go_roundw
            case rel => exact ⟨k + 1, by omega, by go_num, by rw [HS.out], hb.trans ⟨_, rfl⟩⟩
            case measure => simp [intOf]; omega
          · have HS := Lib.hid (hno (by rintro ⟨_, h | h⟩ <;> omega))
            have HM := Lib.hid hme
            generalize hp : weightL (ls.getD k []) = p at *
            generalize hq : weightL (ls.getD j []) = q at *
            have HP := Lib.hid hp
            have HQ := Lib.hid hq
            have hd2 : decide (q < p) = false := by simpa using hgt
            clear hyes hno hme hp hq
            generalize ls.getD k [] = g at *
            generalize ls.getD j [] = h at *
            go_wp2_with fail
            go_quiet (first | (go_at_call 18; exact Calls.quiet_of (rmatch_q g s true _ _ (by omega) (by omega) HM)) | (go_at_call 20; with_reducible exact Calls.quiet_of_same (rweight_q g p _ _ (by omega) HP)) | (go_at_call 20; with_reducible exact Calls.quiet_of_same (rweight_q h q _ _ (by omega) HQ)))
            go_wp2_with fail
            go_roundw
            case rel => exact ⟨k + 1, by omega, by go_num, by rw [HS.out], hb.trans ⟨_, rfl⟩⟩
            case measure => simp [intOf]; omega
    · obtain rfl : k = ls.length := by omega
      go_wp2_with fail
      go_ret
      exact ⟨rfl, hb.below⟩
end Go.Proofs.Ytolmhigekkoikaa
