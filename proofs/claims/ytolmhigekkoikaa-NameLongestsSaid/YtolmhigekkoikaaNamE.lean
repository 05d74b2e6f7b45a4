/- Contracts of the walks of strings.CutPrefix, CutSuffix, HasPrefix and Cut at one byte: each returns what its plain Lean function says; no condition but that the text's length fits. -/
import Derived.Test.YtolmhigekkoikaaNamD
import Derived.Laws.Externs
namespace Go.Proofs.Ytolmhigekkoikaa
open Go.RowKit
set_option linter.unusedVariables false
theorem tuple_sb {a c : ByteArray} {x y : Bool} (h1 : a = c) (h2 : x = y) : Ending.returned (.tuple #[.string a, .bool x]) = .returned (.tuple #[.string c, .bool y]) := by rw [h1, h2]
theorem first_is (l : List UInt8) (c : UInt8) (h : 0 < l.length) : (((ByteArray.mk l.toArray).extract 0 1).toList == [c]) = (by8 l 0 == c.toNat) := by
  rw [ext_list, Go.ByteArray.toList_eq]
  cases l with
  | nil => simp at h
  | cons d t =>
    rw [by8_cons_zero, Bool.eq_iff_iff]
    simp [UInt8.toNat_inj]
theorem last_is (l : List UInt8) (c : UInt8) (h : 0 < l.length) : (((ByteArray.mk l.toArray).extract (l.length - 1) l.length).toList == [c]) = (by8 l (l.length - 1) == c.toNat) := by
  rw [ext_all, Go.ByteArray.toList_eq, by8_mem l _ (by omega)]
  have e : l.drop (l.length - 1) = [l[l.length - 1]] := by
    rw [List.drop_eq_getElem_cons (by omega), List.drop_eq_nil_of_le (by omega)]
  show (l.drop (l.length - 1) == [c]) = _
  rw [e, Bool.eq_iff_iff]
  simp [UInt8.toNat_inj]
set_option maxHeartbeats 400000 in
theorem cutPrefix_yes (l : List UInt8) (w : World) (hl : l.length ≤ 9223372036854775807) (hpos : 0 < l.length) (h : Hid (by8 l 0 = 64)) :
    Calls Try.prog 23 #[.string ⟨l.toArray⟩, .string ⟨#[64]⟩] w fun e w' => e = .returned (.tuple #[.string ⟨(l.drop 1).toArray⟩, .bool true]) ∧ w = w' := by
  have hq : (((ByteArray.mk l.toArray).extract 0 1).toList == [64]) = true := by rw [first_is l 64 hpos, h.out]; rfl
  have HX := Lib.hid (ext_all l 1)
  go_enter Try.func23, Try.ntmps23
  go_wp2
  go_ret2
  exact ⟨tuple_sb HX.out rfl, rfl⟩
set_option maxHeartbeats 400000 in
theorem cutPrefix_no (l : List UInt8) (w : World) (hl : l.length ≤ 9223372036854775807) (h : Hid (¬ by8 l 0 = 64)) :
    Calls Try.prog 23 #[.string ⟨l.toArray⟩, .string ⟨#[64]⟩] w fun e w' => e = .returned (.tuple #[.string ⟨l.toArray⟩, .bool false]) ∧ w = w' := by
  by_cases h0 : l = []
  · subst h0
    go_enter Try.func23, Try.ntmps23
    go_wp2
    go_ret2
    exact ⟨rfl, rfl⟩
  · have hpos := pos_of_ne h0
    have hq : (((ByteArray.mk l.toArray).extract 0 1).toList == [64]) = false := by rw [first_is l 64 hpos]; exact beq_eq_false_iff_ne.2 h.out
    go_enter Try.func23, Try.ntmps23
    go_wp2
    go_ret2
    exact ⟨rfl, rfl⟩
set_option maxHeartbeats 400000 in
theorem cutSuffix_yes (l : List UInt8) (w : World) (hl : l.length ≤ 9223372036854775807) (h : Hid (starL l = true)) :
    Calls Try.prog 29 #[.string ⟨l.toArray⟩, .string ⟨#[42]⟩] w fun e w' => e = .returned (.tuple #[.string ⟨(headL l).toArray⟩, .bool true]) ∧ w = w' := by
  have hpos := star_pos l h.out
  have hq : (((ByteArray.mk l.toArray).extract (l.length - 1) l.length).toList == [42]) = true := by
    rw [last_is l 42 hpos]; have := h.out; rw [star_of l hpos] at this; exact this
  have HX := Lib.hid (ext_head l (l.length - 1) rfl)
  go_enter Try.func29, Try.ntmps29
  go_wp2
  go_ret2
  exact ⟨tuple_sb HX.out rfl, rfl⟩
set_option maxHeartbeats 400000 in
theorem cutSuffix_no (l : List UInt8) (w : World) (hl : l.length ≤ 9223372036854775807) (h : Hid (starL l = false)) :
    Calls Try.prog 29 #[.string ⟨l.toArray⟩, .string ⟨#[42]⟩] w fun e w' => e = .returned (.tuple #[.string ⟨l.toArray⟩, .bool false]) ∧ w = w' := by
  by_cases h0 : l = []
  · subst h0
    go_enter Try.func29, Try.ntmps29
    go_wp2
    go_ret2
    exact ⟨rfl, rfl⟩
  · have hpos := pos_of_ne h0
    have hq : (((ByteArray.mk l.toArray).extract (l.length - 1) l.length).toList == [42]) = false := by
      rw [last_is l 42 hpos]; have := h.out; rw [star_of l hpos] at this; exact this
    go_enter Try.func29, Try.ntmps29
    go_wp2
    go_ret2
    exact ⟨rfl, rfl⟩
set_option maxHeartbeats 400000 in
theorem hasPrefix_any (l p : List UInt8) (w : World) (hl : l.length ≤ 9223372036854775807) (hp : p.length ≤ 9223372036854775807) :
    Calls Try.prog 31 #[.string ⟨l.toArray⟩, .string ⟨p.toArray⟩] w fun e w' => e = .returned (.bool (decide (p.length ≤ l.length) && l.take p.length == p)) ∧ w = w' := by
  by_cases h : p.length ≤ l.length
  · have hd : decide (p.length ≤ l.length) = true := by simpa using h
    have HX : Hid (((ByteArray.mk l.toArray).extract 0 p.length).toList = l.take p.length) := by rw [ext_list, Go.ByteArray.toList_eq]; rfl
    have HR : Hid ((decide (p.length ≤ l.length) && l.take p.length == p) = (l.take p.length == p)) := by rw [hd]; rfl
    rw [HR.out]
    go_enter Try.func31, Try.ntmps31
    go_wp2
    go_ret
    exact ⟨ret_bool (by rw [HX.out]), rfl⟩
  · have hd : decide (p.length ≤ l.length) = false := by simpa using h
    have HR : Hid ((decide (p.length ≤ l.length) && l.take p.length == p) = false) := by rw [hd]; rfl
    rw [HR.out]
    go_enter Try.func31, Try.ntmps31
    go_wp2
    go_ret
    exact ⟨rfl, rfl⟩
theorem get_bang (l : List UInt8) (i : Nat) (h : i < l.length) : ((ByteArray.mk l.toArray)[i]! == (47 : UInt8)) = (by8 l i == 47) := by
  have e : (ByteArray.mk l.toArray)[i]! = l[i] := by
    have h' : i < (ByteArray.mk l.toArray).size := by simpa [ByteArray.size] using h
    rw [getElem!_pos (ByteArray.mk l.toArray) i h', ByteArray.getElem_eq_getElem_data]
    simp
  rw [e, by8_mem l i h, Bool.eq_iff_iff]
  simp only [beq_iff_eq]
  constructor
  · intro h; rw [h]; rfl
  · intro h; exact UInt8.toNat_inj.1 h
theorem firstIdx_stroke (l : List UInt8) : firstIdx ⟨l.toArray⟩ 47 = if strokeL l < l.length then (strokeL l : Int) else -1 := by
  have hs : (ByteArray.mk l.toArray).size = l.length := by simp [ByteArray.size]
  unfold firstIdx
  rw [hs]
  by_cases h : strokeL l < l.length
  · rw [if_pos h]
    have : (List.range l.length).find? (fun i => (ByteArray.mk l.toArray)[i]! == (47 : UInt8)) = some (strokeL l) := by
      rw [List.find?_range_eq_some]
      refine ⟨?_, List.mem_range.2 h, fun j hj => ?_⟩
      · rw [get_bang l _ h, stroke_at l h]; rfl
      · rw [get_bang l j (by omega), beq_eq_false_iff_ne.2 (stroke_before l j hj)]; rfl
    rw [this]
  · rw [if_neg h]
    have : (List.range l.length).find? (fun i => (ByteArray.mk l.toArray)[i]! == (47 : UInt8)) = none := by
      rw [List.find?_eq_none]
      intro j hj
      have hj := List.mem_range.1 hj
      rw [get_bang l j hj, beq_eq_false_iff_ne.2 (stroke_before l j (by have := strokeL_le l; omega))]
      simp
    rw [this]
/-- the library's search for a byte -/
theorem indexByte_run (l : List UInt8) (w : World) : (callFunc 43 #[.string ⟨l.toArray⟩, .int .u8 47]).run Try.prog w = .ok (.value (.int .i64 (if strokeL l < l.length then (strokeL l : Int) else -1))) w := by
  have h := run_callFunc_extern (P := Try.prog) (f := 43) Try.func43 (by kernel_rfl) (by kernel_rfl) (by kernel_rfl) (e := Extern.BytealgIndexByte.indexByte) (by kernel_rfl) #[.string ⟨l.toArray⟩, .int .u8 47] w
  rw [h, run_indexByte_string]
  show Result.ok (Next.value (Value.int .i64 (firstIdx ⟨l.toArray⟩ 47))) w = _
  rw [firstIdx_stroke]
theorem tuple_ssb {a b c d : ByteArray} {x y : Bool} (h1 : a = c) (h2 : b = d) (h3 : x = y) : Ending.returned (.tuple #[.string a, .string b, .bool x]) = .returned (.tuple #[.string c, .string d, .bool y]) := by rw [h1, h2, h3]
set_option maxHeartbeats 400000 in
theorem cut_no (l : List UInt8) (w : World) (hl : l.length ≤ 9223372036854775807) (h : Hid (¬ strokeL l < l.length)) :
    Calls Try.prog 24 #[.string ⟨l.toArray⟩, .string ⟨#[47]⟩] w fun e w' => e = .returned (.tuple #[.string ⟨l.toArray⟩, .string ⟨#[]⟩, .bool false]) ∧ w = w' := by
  have hne : ([47] == l) = false := by
    rw [beq_eq_false_iff_ne]
    rintro rfl
    exact h.out (by decide)
  have hix : ∀ w : World, (callFunc 43 #[.string ⟨l.toArray⟩, .int .u8 (((ByteArray.mk #[47])[0]'(by decide)).toNat : Int)]).run Try.prog w = _ := indexByte_run l
  rw [if_neg h.out] at hix
  go_enter Try.func24, Try.ntmps24
  go_wp2
  go_ret3
  exact ⟨rfl, rfl⟩
set_option maxHeartbeats 400000 in
theorem cut_yes (l : List UInt8) (k : Nat) (w : World) (hl : l.length ≤ 9223372036854775807) (hk : Hid (strokeL l = k)) (h : k < l.length) :
    Calls Try.prog 24 #[.string ⟨l.toArray⟩, .string ⟨#[47]⟩] w fun e w' => e = .returned (.tuple #[.string ⟨(l.take k).toArray⟩, .string ⟨(l.drop (k + 1)).toArray⟩, .bool true]) ∧ Below w.heap.size w w' := by
  have hix : ∀ w : World, (callFunc 43 #[.string ⟨l.toArray⟩, .int .u8 (((ByteArray.mk #[47])[0]'(by decide)).toNat : Int)]).run Try.prog w = _ := indexByte_run l
  rw [hk.out, if_pos h] at hix
  have HX1 := Lib.hid (ext_list l 0 k)
  have HX2 := Lib.hid (ext_all l (k + 1))
  have f1 : (0 : Int) ≤ (k : Int) := by omega
  have f2 : (k : Int) ≤ (l.length : Int) := by omega
  have f3 : (k : Int) + 1 ≤ (l.length : Int) := by omega
  have f4 : (0 : Int) ≤ (k : Int) + 1 := by omega
  have f5 : ((k : Int) + 1).toNat = k + 1 := by omega
  by_cases he : [47] = l
  · subst he
    have hk0 : k = 0 := by rw [← hk.out]; decide
    subst hk0
    go_enter Try.func24, Try.ntmps24
    go_wp2
    go_quiet (fail)
    go_wp2
    go_ret3
    exact ⟨rfl, below_drewN (Below.refl _ _) _⟩
  · have hne : ([47] == l) = false := beq_eq_false_iff_ne.2 he
    go_enter Try.func24, Try.ntmps24
    go_wp2
    go_quiet (fail)
    go_wp2
    go_ret3
    exact ⟨tuple_ssb HX1.out HX2.out rfl, below_drewN (Below.refl _ _) _⟩
end Go.Proofs.Ytolmhigekkoikaa
