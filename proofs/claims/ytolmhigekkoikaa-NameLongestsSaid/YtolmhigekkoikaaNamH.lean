/- Contracts of the walks of name.Longest and the law's named: each returns what its plain Lean function says; no condition but that the texts' lengths fit. -/
import Derived.Test.YtolmhigekkoikaaNamG
import Derived.Test.YtolmhigekkoikaaVRow
namespace Go.Proofs.Ytolmhigekkoikaa
open Go.RowKit
set_option linter.unusedVariables false
def strVals (ls : List (List UInt8)) : List Value := ls.map fun l => Value.string ⟨l.toArray⟩
theorem strVals_length (ls : List (List UInt8)) : (strVals ls).length = ls.length := by simp [strVals]
theorem strVals_at (ls : List (List UInt8)) (i : Nat) (h : i < ls.length) : (strVals ls)[i]? = some (.string ⟨(ls.getD i []).toArray⟩) := by simp [strVals, List.getD, h]
/-- the pattern of the first k that fits and says most -/
def longTo (s : List UInt8) (ls : List (List UInt8)) : Nat → Int
  | 0 => -1
  | k + 1 => if matchL (ls.getD k []) s = true ∧ (longTo s ls k < 0 ∨ weightL (ls.getD (longTo s ls k).toNat []) < weightL (ls.getD k [])) then (k : Int) else longTo s ls k
def mostTo (s : List UInt8) (ls : List (List UInt8)) (k : Nat) : Int := if longTo s ls k < 0 then -1 else weightL (ls.getD (longTo s ls k).toNat [])
theorem longTo_bd (s : List UInt8) (ls : List (List UInt8)) (k : Nat) : -1 ≤ longTo s ls k ∧ longTo s ls k < k := by
  induction k with
  | zero => simp [longTo]
  | succ k ih => unfold longTo; split <;> omega
theorem weight_bd (l : List UInt8) : -1 ≤ weightL l ∧ weightL l ≤ 2 * (l.length : Int) + 1 := by
  unfold weightL
  split
  · split
    · rename_i h; have := star_pos l h; omega
    · omega
  · omega
theorem weight_match (g s : List UInt8) (h : matchL g s = true) : 0 ≤ weightL g := by
  unfold matchL at h
  simp only [Bool.and_eq_true] at h
  unfold weightL
  rw [if_pos h.1.1]
  split
  · rename_i h; have := star_pos g h; omega
  · omega
/-- the program's test is the reference's -/
theorem long_step (s : List UInt8) (ls : List (List UInt8)) (k : Nat) :
    (mostTo s ls k < weightL (ls.getD k []) ∧ matchL (ls.getD k []) s = true → longTo s ls (k + 1) = k ∧ mostTo s ls (k + 1) = weightL (ls.getD k [])) ∧
    (¬ (mostTo s ls k < weightL (ls.getD k []) ∧ matchL (ls.getD k []) s = true) → longTo s ls (k + 1) = longTo s ls k ∧ mostTo s ls (k + 1) = mostTo s ls k) := by
  have hw := weight_match (ls.getD k []) s
  have e : longTo s ls (k + 1) = if matchL (ls.getD k []) s = true ∧ (longTo s ls k < 0 ∨ weightL (ls.getD (longTo s ls k).toNat []) < weightL (ls.getD k [])) then (k : Int) else longTo s ls k := rfl
  have e2 : mostTo s ls (k + 1) = if longTo s ls (k + 1) < 0 then -1 else weightL (ls.getD (longTo s ls (k + 1)).toNat []) := rfl
  have iff : (mostTo s ls k < weightL (ls.getD k []) ∧ matchL (ls.getD k []) s = true) ↔ (matchL (ls.getD k []) s = true ∧ (longTo s ls k < 0 ∨ weightL (ls.getD (longTo s ls k).toNat []) < weightL (ls.getD k []))) := by
    unfold mostTo
    by_cases hn : longTo s ls k < 0
    · rw [if_pos hn]
      constructor
      · rintro ⟨_, h⟩; exact ⟨h, .inl hn⟩
      · rintro ⟨h, _⟩; exact ⟨by have := hw h; omega, h⟩
    · rw [if_neg hn]
      constructor
      · rintro ⟨h1, h2⟩; exact ⟨h2, .inr h1⟩
      · rintro ⟨h1, h2 | h2⟩
        · exact absurd h2 hn
        · exact ⟨h2, h1⟩
  constructor
  · intro h
    rw [if_pos (iff.1 h)] at e
    rw [e] at e2
    rw [if_neg (by omega), show ((k : Int)).toNat = k from by omega] at e2
    exact ⟨e, e2⟩
  · intro h
    rw [if_neg (fun c => h (iff.2 c))] at e
    rw [e] at e2
    exact ⟨e, e2⟩
theorem getD_len (ls : List (List UInt8)) (i m : Nat) (h : ∀ l ∈ ls, l.length ≤ m) : (ls.getD i []).length ≤ m := by
  by_cases hi : i < ls.length
  · have : ls.getD i [] = ls[i] := by simp [List.getD, hi]
    rw [this]
    exact h _ (List.getElem_mem _)
  · simp [List.getD, hi]
set_option maxHeartbeats 1600000 in
theorem longest_any (s : List UInt8) (v : Value) (ls : List (List UInt8)) (w : World) (hs : s.length ≤ 1000) (hr : ValRow w v (strVals ls)) (hl : ∀ l ∈ ls, l.length ≤ 1000) :
    Calls Try.prog 21 #[.string ⟨s.toArray⟩, v] w fun e w' => e = .returned (.int .i64 (longTo s ls ls.length)) ∧ Below w.heap.size w w' := by
  have hmax := hr.len
  obtain ⟨a, cap, hv⟩ := hr.shape
  rw [strVals_length] at hmax hv
  subst hv
  unfold maxLen at hmax
  have HR := Lib.hid hr
  have HL := Lib.hid hl
  clear hr hl
  go_enter Try.func21, Try.ntmps21
  go_wp2_with fail
  go_loopw [5, 6, 12] (fun o m i wr => ∃ k : Nat, k ≤ ls.length ∧ i = .int .i64 k ∧ o = .int .i64 (longTo s ls k) ∧ m = .int .i64 (mostTo s ls k) ∧ Below w.heap.size w wr) (fun _ _ i _ => ls.length - (intOf i).toNat)
  case atStart => exact ⟨0, by omega, rfl, rfl, rfl, Below.refl _ _⟩
  case round =>
    obtain ⟨k, hk, rfl, rfl, rfl, hb⟩ := hrel
    by_cases hlt : k < ls.length
    · obtain ⟨b, off, rfl, hbw, hcell⟩ := valRow_cells HR.out k (by rw [strVals_length]; exact hlt)
      rw [strVals_length] at hcell
      have hc := hcell k hlt
      rw [strVals_at ls k hlt] at hc
      have hcr : wr.cell? ⟨b, off + k, none⟩ = some (.string ⟨(ls.getD k []).toArray⟩) := by rw [hb.cell (p := ⟨b, off + k, none⟩) hbw]; exact hc
      have hgl := getD_len ls k 1000 HL.out
      have hst := long_step s ls k
      have hwb := weight_bd (ls.getD k [])
      clear hcell hc
      generalize ls.getD k [] = g at *
      generalize longTo s ls k = t at *
      generalize mostTo s ls k = m at *
      generalize hwe : weightL g = x at *
      generalize hme : matchL g s = y at *
      have HW := Lib.hid hwe
      have HM := Lib.hid hme
      clear hwe hme
      by_cases hgt : m < x
      · have hd : decide (m < x) = true := by simpa using hgt
        cases y
        · have H1 := Lib.hid (hst.2 (by simp))
          clear hst
          go_wp2_with fail
          refine (weight_is g x _ (by omega) HW).mono ?_
          rintro e w1 ⟨rfl, hb1⟩
          go_wp2_with fail
          refine (match_is g s false _ (by omega) (by omega) HM).mono ?_
          rintro e w2 ⟨rfl, hb2⟩
          go_wp2_with fail
          go_roundw
          case rel => exact ⟨k + 1, by omega, by go_num, by rw [H1.out.1], by rw [H1.out.2], bthen (bthen hb hb1) hb2⟩
          case measure => simp [intOf]; omega
        · have H1 := Lib.hid (hst.1 ⟨hgt, rfl⟩)
          clear hst
          go_wp2_with fail
          refine (weight_is g x _ (by omega) HW).mono ?_
          rintro e w1 ⟨rfl, hb1⟩
          go_wp2_with fail
          refine (match_is g s true _ (by omega) (by omega) HM).mono ?_
          rintro e w2 ⟨rfl, hb2⟩
          go_wp2_with fail
          go_roundw
          case rel => exact ⟨k + 1, by omega, by go_num, by rw [H1.out.1], by rw [H1.out.2], bthen (bthen hb hb1) hb2⟩
          case measure => simp [intOf]; omega
      · have hd : decide (m < x) = false := by simpa using hgt
        have H1 := Lib.hid (hst.2 (fun h => hgt h.1))
        clear hst
        go_wp2_with fail
        refine (weight_is g x _ (by omega) HW).mono ?_
        rintro e w1 ⟨rfl, hb1⟩
        go_wp2_with fail
        go_roundw
        case rel => exact ⟨k + 1, by omega, by go_num, by rw [H1.out.1], by rw [H1.out.2], bthen hb hb1⟩
        case measure => simp [intOf]; omega
    · obtain rfl : k = ls.length := by omega
      go_wp2_with fail
      go_ret
      exact ⟨rfl, hb⟩
end Go.Proofs.Ytolmhigekkoikaa
