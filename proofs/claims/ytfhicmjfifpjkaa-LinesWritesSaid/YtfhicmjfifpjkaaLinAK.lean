/- A slice of slices of strings that came in; the reference's Write. -/
import Derived.Test.YtfhicmjfifpjkaaLinAJ
import Derived.Test.YtfhicmjfifpjkaaLinG
import Derived.SliceStrings
namespace Go.Proofs.Ytfhicmjfifpjkaa
open Go.RowKit Go.ChangeShapes Go.WideShapes Go.Deep
set_option linter.unusedVariables false
/-- an element: a slice of strings -/
def StrsC (w : World) (cs : List Value) (x : List (List UInt8)) : Prop := ∃ v, cs = [v] ∧ ValRow w v (strVals x) ∧ ∀ l ∈ x, l.length ≤ maxLen
theorem strsC_lasts : Lasts StrsC := by
  rintro w w' cs x hb ⟨v, h1, h2, h3⟩
  exact ⟨v, h1, h2.below hb, h3⟩
theorem strs_row2 {w : World} {x : Addr} {len cap : Nat} {zs : List ByteArray} (h1 : len ≤ cap) (h2 : cap ≤ maxLen) (h3 : len ≤ zs.length) (h4 : ∀ i, i < zs.length → w.cell? (x.add i) = some (.string (zs.getD i ByteArray.empty))) (h5 : ∀ s ∈ zs, s.size ≤ maxLen) :
    ∃ ls : List (List UInt8), ls.length = len ∧ ValRow w (.slice (some x) len cap) (strVals ls) ∧ ∀ l ∈ ls, l.length ≤ maxLen := by
  refine ⟨(zs.take len).map fun s => s.data.toList, by simp; omega, ?_, ?_⟩
  · by_cases h0 : len = 0
    · subst h0; exact .inl ⟨_, _, rfl, by simp [strVals]⟩
    · obtain ⟨b, off, rfl, hc⟩ := strs_at h4 (by omega)
      have hl : (strVals ((zs.take len).map fun s => s.data.toList)).length = len := by simp [strVals]; omega
      have hc' : ∀ i, i < len → w.cell? ⟨b, off + i, none⟩ = (strVals ((zs.take len).map fun s => s.data.toList))[i]? := fun i hi => by
        rw [hc i (by omega)]
        have hi2 : i < zs.length := by omega
        simp [strVals, hi, hi2, List.getD]
      refine .inr ⟨b, off, cap, by rw [hl], ⟨by omega, by omega⟩, h2, lt_of_cell (hc 0 (by omega)), ?_⟩
      rw [hl]; exact hc'
  · intro l hl
    obtain ⟨s, hs, rfl⟩ := List.mem_map.1 hl
    exact h5 s (List.mem_of_mem_take hs)
theorem strsC_open {H : Type} {enc : TypeId × Value → H} {w : World} {base : Nat} {spare : Nat → Bool} {held : Bool} (m : Nat) (cs : List Value) (y : DataW H × List MemPlace)
    (h : DataW.trod enc Try.prog w base spare held m 22 cs = some y) : ∃ x : List (List UInt8), StrsC w cs x := by
  rcases open_strings Try.underlying22 Try.underlying9 (by kernel_rfl) h with ⟨rfl, _⟩ | ⟨a, len, cap, ss, rfl, _, hl, hm, hss, _, hc, hs⟩
  · exact ⟨[], _, rfl, .inl ⟨_, _, rfl, rfl⟩, by simp⟩
  · obtain ⟨ls, h1, h2, h3⟩ := strs_row2 hl hm (by rw [hss]; split <;> omega) hc hs
    exact ⟨ls, _, rfl, h2, h3⟩
theorem lineW_take {ws : List (List UInt8)} (k : Nat) (h : k < ws.length) (hk : 0 < k) : lineW (ws.take (k + 1)) = lineW (ws.take k) ++ 32 :: ws.getD k [] := by
  rw [List.take_succ_eq_append_getElem h, lineW_snoc (by intro e; have := congrArg List.length e; rw [List.length_take, List.length_nil] at this; omega)]
  simp [h]
theorem lineW_one {ws : List (List UInt8)} (h : 0 < ws.length) : lineW (ws.take 1) = ws.getD 0 [] := by
  cases ws with
  | nil => simp at h
  | cons w t => simp [lineW]
theorem writeL_take (LL : List (List (List UInt8))) (k : Nat) (h : k < LL.length) : writeL (LL.take (k + 1)) = writeL (LL.take k) ++ (lineW (LL.getD k []) ++ [10]) := by
  rw [List.take_succ_eq_append_getElem h, writeL_snoc]
  simp [h]
theorem ret_str {a b : List UInt8} (h : a = b) : Ending.returned (.string ⟨a.toArray⟩) = .returned (.string ⟨b.toArray⟩) := by rw [h]
theorem catB (a b : List UInt8) : (ByteArray.mk a.toArray) ++ (ByteArray.mk b.toArray) = ⟨(a ++ b).toArray⟩ := by
  apply ByteArray.ext
  simp
theorem cat32 (a : List UInt8) : (ByteArray.mk a.toArray) ++ (ByteArray.mk #[32]) = ⟨(a ++ [32]).toArray⟩ := catB a [32]
theorem cat10 (a : List UInt8) : (ByteArray.mk a.toArray) ++ (ByteArray.mk #[10]) = ⟨(a ++ [10]).toArray⟩ := catB a [10]
/-- a row and a word of it -/
theorem row_at {w : World} {a : Option Addr} {cap : Nat} {LL : List (List (List UInt8))} (h : RowOf 1 StrsC w (.slice a LL.length cap) LL) (i : Nat) (hi : i < LL.length) :
    ∃ b off va vc, a = some ⟨b, off, none⟩ ∧ b < w.heap.size ∧ w.cell? ⟨b, off + i, none⟩ = some (.slice va (LL.getD i []).length vc) ∧ ValRow w (.slice va (LL.getD i []).length vc) (strVals (LL.getD i [])) ∧ (∀ l ∈ LL.getD i [], l.length ≤ maxLen) := by
  obtain ⟨b, off, ha, hb, cs, ⟨_, hc⟩, v, rfl, hr, hm⟩ := h.at_ i hi
  have e : LL.getD i [] = LL[i] := by simp [hi]
  rw [e]
  obtain ⟨va, vc, rfl⟩ := hr.shape
  rw [strVals_length] at hr hc
  refine ⟨b, off, va, vc, ha, hb, ?_, hr, hm⟩
  have := hc 0 (by omega)
  simpa using this
set_option maxHeartbeats 1600000 in
theorem rwrite_any (a : Option Addr) (cap : Nat) (LL : List (List (List UInt8))) (w : World) (h : RowOf 1 StrsC w (.slice a LL.length cap) LL) (s : List UInt8) (hs : Hid (writeL LL = s)) (hbd : s.length ≤ 100000000) :
    Calls Try.prog 30 #[.slice a LL.length cap] w fun e w' => e = .returned (.string ⟨s.toArray⟩) ∧ w = w' := by
  have hmx := h.len
  unfold maxLen at hmx
  have H := Lib.hid h
  clear h
  go_enter Try.func30, Try.ntmps30
  go_wp2_with fail
  go_loop [3, 4] (fun t i => ∃ (k : Nat) (X : List UInt8), i = .int .i64 k ∧ k ≤ LL.length ∧ t = .string ⟨X.toArray⟩ ∧ X = writeL (LL.take k)) (fun _ i => LL.length - (intOf i).toNat)
  case atStart => exact ⟨0, [], rfl, Nat.zero_le _, rfl, rfl⟩
  case round =>
    obtain ⟨k, X, rfl, hk, rfl, hX⟩ := hrel
    have HX := Lib.hid hX
    clear hX
    have k0 : (0 : Int) ≤ (k : Int) := by omega
    by_cases hlt : k < LL.length
    · have k1 : (k : Int) < (LL.length : Int) := by omega
      have hdk : decide (k < LL.length) = true := decide_eq_true hlt
      obtain ⟨b, off, va, vc, rfl, hb, hc, hr, hm⟩ := row_at H.out k hlt
      have HT := Lib.hid (writeL_take LL k hlt)
      have HPART : Hid (∀ q, (writeL (LL.take k)).length + (lineW ((LL.getD k []).take q)).length + 1 ≤ 100000000) := Lib.hid (fun q => by have := writeL_part LL k q hlt; rw [hs.out] at this; omega)
      obtain ⟨ws, hws⟩ : ∃ ws, LL.getD k [] = ws := ⟨_, rfl⟩
      rw [hws] at hc hr HT HPART
      have hrl := hr.len
      rw [strVals_length] at hrl
      unfold maxLen at hrl
      have HR := Lib.hid hr
      clear hr hm hws
      go_wp2_with fail
      go_loop [3, 5] (fun t i => ∃ (q : Nat) (Y : List UInt8), i = .int .i64 q ∧ q ≤ ws.length ∧ t = .string ⟨Y.toArray⟩ ∧ Y = X ++ lineW (ws.take q)) (fun _ i => ws.length - (intOf i).toNat)
      case atStart => exact ⟨0, X, rfl, Nat.zero_le _, rfl, by simp [lineW]⟩
      case round =>
        obtain ⟨q, Y, rfl, hq, rfl, hY⟩ := hrel
        have HY := Lib.hid hY
        have hyl : Y.length + 1 ≤ 100000000 := by have := HPART.out q; rw [← HX.out] at this; rw [hY, List.length_append]; omega
        clear hY
        have hn0 : ¬ 9223372036854775807 < Y.length + 1 := by omega
        have q0 : (0 : Int) ≤ (q : Int) := by omega
        by_cases hqt : q < ws.length
        · have q1 : (q : Int) < (ws.length : Int) := by omega
          have hdq : decide (q < ws.length) = true := decide_eq_true hqt
          obtain ⟨b2, off2, rfl, hb2, hc2⟩ := valRow_cells HR.out q (by rw [strVals_length]; exact hqt)
          have c2 := hc2 q (by rw [strVals_length]; exact hqt)
          rw [strVals_get _ _ hqt] at c2
          obtain ⟨x, hx⟩ : ∃ x, ws.getD q [] = x := ⟨_, rfl⟩
          rw [hx] at c2
          have HX2 := Lib.hid hx
          clear hc2 hx
          by_cases hq0 : 0 < q
          · have hd0 : decide ((0 : Int) < (q : Int)) = true := decide_eq_true (by omega)
            have hd0' : decide (0 < q) = true := decide_eq_true hq0
            have HL : Hid (lineW (ws.take (q + 1)) = lineW (ws.take q) ++ 32 :: x) := Lib.hid (by rw [lineW_take q hqt hq0, HX2.out])
            have hn1 : ¬ 9223372036854775807 < Y.length + 1 + x.length := by
              have h1 := HPART.out (q + 1)
              rw [HL.out, ← HX.out] at h1
              rw [HY.out]; simp only [List.length_append, List.length_cons] at h1 ⊢; omega
            have HC := Lib.hid (cat32 Y)
            have HC2 := Lib.hid (catB (Y ++ [32]) x)
            go_wp2_with fail
            go_round
            case rel => exact ⟨q + 1, Y ++ [32] ++ x, by go_num, by omega, by rw [HC.out, HC2.out], by rw [HL.out, HY.out]; simp⟩
            case measure => simp [intOf]; omega
          · have hd0 : decide ((0 : Int) < (q : Int)) = false := decide_eq_false (by omega)
            have hd0' : decide (0 < q) = false := decide_eq_false hq0
            have HL : Hid (lineW (ws.take (q + 1)) = x ∧ lineW (ws.take q) = []) := Lib.hid (by
              obtain rfl : q = 0 := by omega
              exact ⟨by rw [lineW_one hqt, HX2.out], by simp [lineW]⟩)
            have hn1 : ¬ 9223372036854775807 < Y.length + x.length := by
              have h1 := HPART.out (q + 1)
              rw [HL.out.1, ← HX.out] at h1
              rw [HY.out, HL.out.2]; simp only [List.length_append, List.length_nil] at h1 ⊢; omega
            have HC2 := Lib.hid (catB Y x)
            go_wp2_with fail
            go_round
            case rel => exact ⟨q + 1, Y ++ x, by go_num, by omega, by rw [HC2.out], by rw [HL.out.1, HY.out, HL.out.2]; simp⟩
            case measure => simp [intOf]; omega
        · have hdq : decide (q < ws.length) = false := decide_eq_false hqt
          have HQ : Hid (q = ws.length) := Lib.hid (by omega)
          have HC := Lib.hid (cat10 Y)
          go_wp2_with fail
          go_round
          case rel => exact ⟨k + 1, Y ++ [10], by go_num, by omega, by rw [HC.out], by rw [HT.out, HY.out, HQ.out, List.take_length, HX.out]; simp⟩
          case measure => simp [intOf]; omega
    · have hdk : decide (k < LL.length) = false := decide_eq_false hlt
      have HK : Hid (k = LL.length) := Lib.hid (by omega)
      go_wp2_with fail
      go_ret
      exact ⟨ret_str (by rw [HX.out, HK.out, List.take_length, hs.out]), rfl⟩
end Go.Proofs.Ytfhicmjfifpjkaa
