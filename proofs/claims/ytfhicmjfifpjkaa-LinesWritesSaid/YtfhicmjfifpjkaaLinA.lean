/- Contracts of strings.Cut at one byte and of lines.blank. -/
import Derived.Test.YtfhicmjfifpjkaaRows
import Derived.Test.YtfhicmjfifpjkaaLinP
import Derived.Test.YtfhicmjfifpjkaaOwn
import Derived.Test.YtfhicmjfifpjkaaSRow
import Derived.WalkKit
import Derived.ProofKit
import Derived.Outline
import Derived.Below
import Derived.Handy
import Derived.PlainAid
import Derived.Lib.Hide
import Derived.WalkLawsBesides
import Derived.WalkSpells
import Derived.WalkSmall
import Derived.Deep.QuietTactic
import Derived.BigQuiet
import Derived.Deep.RegionHeld3
import Derived.Laws.Externs
namespace Go.Proofs.Ytfhicmjfifpjkaa
open Go.RowKit
set_option linter.unusedVariables false
theorem ret_int {k : IntKind} {a b : Int} (h : a = b) : Ending.returned (.int k a) = .returned (.int k b) := by rw [h]
theorem ret_bool {a b : Bool} (h : a = b) : Ending.returned (.bool a) = .returned (.bool b) := by rw [h]
theorem get_bang (l : List UInt8) (i : Nat) (h : i < l.length) : (ByteArray.mk l.toArray)[i]! = l[i] := by
  have hs : i < (ByteArray.mk l.toArray).size := by simpa [ByteArray.size] using h
  rw [getElem!_pos (ByteArray.mk l.toArray) i hs, ByteArray.getElem_eq_getElem_data]
  simp
/-- a byte of one kind -/
def isB (c : UInt8) (x : Nat) : Bool := x == c.toNat
theorem isB_eq (c d : UInt8) : (d == c) = isB c d.toNat := by
  unfold isB
  rw [Bool.eq_iff_iff]
  simp only [beq_iff_eq]
  exact ⟨fun h => by rw [h], fun h => UInt8.toNat_inj.1 h⟩
theorem firstIdx_is (l : List UInt8) (c : UInt8) : firstIdx ⟨l.toArray⟩ c = if upTo (isB c) l 0 < l.length then (upTo (isB c) l 0 : Int) else -1 := by
  have hs : (ByteArray.mk l.toArray).size = l.length := by simp [ByteArray.size]
  unfold firstIdx
  rw [hs]
  by_cases h : upTo (isB c) l 0 < l.length
  · rw [if_pos h]
    have : (List.range l.length).find? (fun i => (ByteArray.mk l.toArray)[i]! == c) = some (upTo (isB c) l 0) := by
      rw [List.find?_range_eq_some]
      refine ⟨?_, List.mem_range.2 h, fun j hj => ?_⟩
      · rw [get_bang l _ h, isB_eq, ← by8_mem l _ h, upTo_at (isB c) l _ 0 rfl h]
      · rw [get_bang l j (by omega), isB_eq, ← by8_mem l j (by omega), upTo_before (isB c) l _ 0 j rfl (Nat.zero_le _) hj]; rfl
    rw [this]
  · rw [if_neg h]
    have : (List.range l.length).find? (fun i => (ByteArray.mk l.toArray)[i]! == c) = none := by
      rw [List.find?_eq_none]
      intro j hj
      have hj := List.mem_range.1 hj
      rw [get_bang l j hj, isB_eq, ← by8_mem l j hj, upTo_before (isB c) l _ 0 j rfl (Nat.zero_le _) (by have := upTo_le (isB c) l 0 (by omega); omega)]
      simp
    rw [this]
theorem indexByte_run (l : List UInt8) (c : UInt8) (w : World) : (callFunc 59 #[.string ⟨l.toArray⟩, .int .u8 c.toNat]).run Try.prog w = .ok (.value (.int .i64 (if upTo (isB c) l 0 < l.length then (upTo (isB c) l 0 : Int) else -1))) w := by
  have h := run_callFunc_extern (P := Try.prog) (f := 59) Try.func59 (by kernel_rfl) (by kernel_rfl) (by kernel_rfl) (e := Extern.BytealgIndexByte.indexByte) (by kernel_rfl) #[.string ⟨l.toArray⟩, .int .u8 c.toNat] w
  rw [h, run_indexByte_string]
  show Result.ok (Next.value (Value.int .i64 (firstIdx ⟨l.toArray⟩ _))) w = _
  have e : (c.toNat : Int).toNat.toUInt8 = c := by simp
  rw [e, firstIdx_is]
theorem tuple_ssb {a b c d : ByteArray} {x y : Bool} (h1 : a = c) (h2 : b = d) (h3 : x = y) : Ending.returned (.tuple #[.string a, .string b, .bool x]) = .returned (.tuple #[.string c, .string d, .bool y]) := by rw [h1, h2, h3]
set_option maxHeartbeats 400000 in
theorem cut_no (l : List UInt8) (c : UInt8) (w : World) (hl : l.length ≤ 9223372036854775807) (h : Hid (¬ upTo (isB c) l 0 < l.length)) :
    Calls Try.prog 45 #[.string ⟨l.toArray⟩, .string ⟨#[c]⟩] w fun e w' => e = .returned (.tuple #[.string ⟨l.toArray⟩, .string ⟨#[]⟩, .bool false]) ∧ w = w' := by
  have hne : ([c] == l) = false := by
    rw [beq_eq_false_iff_ne]
    rintro rfl
    refine h.out ?_
    rw [upTo_hit _ _ _ (by simp) (by unfold isB by8; simp)]; simp
  have hix : ∀ w : World, (callFunc 59 #[.string ⟨l.toArray⟩, .int .u8 (((ByteArray.mk #[c])[0]'(by simp [ByteArray.size])).toNat : Int)]).run Try.prog w = _ := indexByte_run l c
  rw [if_neg h.out] at hix
  go_enter Try.func45, Try.ntmps45
  go_wp2
  go_ret3
  exact ⟨rfl, rfl⟩
set_option maxHeartbeats 400000 in
theorem cut_yes (l : List UInt8) (c : UInt8) (k : Nat) (w : World) (hl : l.length ≤ 9223372036854775807) (hk : Hid (upTo (isB c) l 0 = k)) (h : k < l.length) :
    Calls Try.prog 45 #[.string ⟨l.toArray⟩, .string ⟨#[c]⟩] w fun e w' => e = .returned (.tuple #[.string ⟨(l.take k).toArray⟩, .string ⟨(l.drop (k + 1)).toArray⟩, .bool true]) ∧ ∃ m, w' = w.drewN m := by
  have hix : ∀ w : World, (callFunc 59 #[.string ⟨l.toArray⟩, .int .u8 (((ByteArray.mk #[c])[0]'(by simp [ByteArray.size])).toNat : Int)]).run Try.prog w = _ := indexByte_run l c
  rw [hk.out, if_pos h] at hix
  have HX1 := Lib.hid (ext_list l 0 k)
  have HX2 := Lib.hid (ext_all l (k + 1))
  have f1 : (0 : Int) ≤ (k : Int) := by omega
  have f2 : (k : Int) ≤ (l.length : Int) := by omega
  have f3 : (k : Int) + 1 ≤ (l.length : Int) := by omega
  have f4 : (0 : Int) ≤ (k : Int) + 1 := by omega
  have f5 : ((k : Int) + 1).toNat = k + 1 := by omega
  by_cases he : [c] = l
  · subst he
    have hk0 : k = 0 := by simp at h; omega
    subst hk0
    go_enter Try.func45, Try.ntmps45
    go_wp2
    go_quiet (fail)
    go_wp2
    go_ret3
    exact ⟨rfl, _, rfl⟩
  · have hne : ([c] == l) = false := beq_eq_false_iff_ne.2 he
    go_enter Try.func45, Try.ntmps45
    go_wp2
    go_quiet (fail)
    go_wp2
    go_ret3
    exact ⟨tuple_ssb HX1.out HX2.out rfl, _, rfl⟩
/-- what a text is cut into at a byte -/
theorem cut_any (l : List UInt8) (c : UInt8) (a b : List UInt8) (w : World) (hl : l.length ≤ 9223372036854775807) (ha : Hid (l.take (upTo (isB c) l 0) = a)) (hb : Hid (l.drop (upTo (isB c) l 0 + 1) = b)) :
    Calls Try.prog 45 #[.string ⟨l.toArray⟩, .string ⟨#[c]⟩] w fun e w' => (∃ r, e = .returned (.tuple #[.string ⟨a.toArray⟩, .string ⟨b.toArray⟩, .bool r])) ∧ ∃ m, w' = w.drewN m := by
  by_cases h : upTo (isB c) l 0 < l.length
  · refine (cut_yes l c _ w hl (Lib.hid rfl) h).mono ?_
    rintro e w' ⟨rfl, m, rfl⟩
    rw [ha.out, hb.out]
    exact ⟨⟨_, rfl⟩, m, rfl⟩
  · refine (cut_no l c w hl (Lib.hid h)).mono ?_
    rintro e w' ⟨rfl, rfl⟩
    have h1 := ha.out
    have h2 := hb.out
    rw [List.take_of_length_le (by omega)] at h1
    rw [List.drop_eq_nil_of_le (by omega)] at h2
    subst h1; subst h2
    exact ⟨⟨_, rfl⟩, 0, rfl⟩
theorem blank_is (c : Nat) (v : Bool) (w : World) (hc : c ≤ 255) (hv : Hid (blankC c = v)) :
    Calls Try.prog 50 #[.int .u8 c] w fun e w' => e = .returned (.bool v) ∧ w = w' := by
  have h : Calls Try.prog 50 #[.int .u8 c] w fun e w' => e = .returned (.bool (blankC c)) ∧ w = w' := by
    go_enter Try.func50, Try.ntmps50
    go_wp2
    all_goals go_ret
    all_goals (refine ⟨ret_bool ?_, rfl⟩)
    all_goals (rw [Bool.eq_iff_iff]; simp [blankC]; omega)
  rwa [hv.out] at h
end Go.Proofs.Ytfhicmjfifpjkaa
