/- The program's Norm. -/
import Derived.Test.YteimfcokobdldaaCnO
namespace Go.Proofs.Yteimfcokobdldaa
open Go.RowKit
set_option linter.unusedVariables false
def SliceOf (w0 : World) (l : List Int) (e : Ending) (w' : World) : Prop := ∃ a cap, e = .returned (.slice a l.length cap) ∧ ValRow w' (.slice a l.length cap) (intVals l) ∧ Below w0.heap.size w0 w'
theorem norm_nil (cap : Nat) (w : World) : Calls Try.prog 16 #[.slice none 0 cap] w (SliceOf w []) := by
  go_enter Try.func16, Try.ntmps16
  go_wp2_with fail
  refine (Try.slices_Clone_int_nil 0 cap _).mono ?_
  rintro e w1 ⟨rfl, rfl⟩
  go_wp2_with fail
  refine (AnyF.slices_SortFunc_none { Try.sortL with } none 0 _ _).mono ?_
  rintro e w1 ⟨rfl, rfl⟩
  go_wp2_with fail
  refine (Try.slices_Compact_int_empty none 0 _).mono ?_
  rintro e w1 ⟨rfl, rfl⟩
  go_wp2_with fail
  refine (clip_nil _).mono ?_
  rintro e w1 ⟨rfl, rfl⟩
  go_wp2_with fail
  go_ret
  exact ⟨none, 0, rfl, .inl ⟨_, _, rfl, rfl⟩, Below.refl _ _⟩
theorem norm_some (ad : Addr) (cap : Nat) (c : List Int) (w : World) (h : ValRow w (.slice (some ad) c.length cap) (intVals c)) (hlen : c.length ≤ 1000000) (hl : ∀ x ∈ c, -1000000 ≤ x ∧ x ≤ 1000000) :
    Calls Try.prog 16 #[.slice (some ad) c.length cap] w (SliceOf w (normL c)) := by
  have H := Lib.hid h
  have HL := Lib.hid hl
  clear h hl
  go_enter Try.func16, Try.ntmps16
  go_wp2_with fail
  refine (clone_some ad cap c _ H.out hlen).mono ?_
  rintro e w1 ⟨g, cp, rfl, ho, hb⟩
  have HO := Lib.hid ho
  have HB := Lib.hid hb
  clear ho hb
  go_wp2_with fail
  refine (sort_own w.heap.size g cp c _ HO.out HL.out hlen w HB.out).mono ?_
  rintro e w2 ⟨rfl, ho, hb⟩
  have HO2 := Lib.hid ho
  have HB2 := Lib.hid hb
  have e1 : (sortI c).length = c.length := sortI_length c
  clear ho hb
  go_wp2_with fail
  have hc := compact_own w.heap.size g cp (sortI c) _ HO2.out w HB2.out
  rw [e1] at hc
  refine hc.mono ?_
  clear hc
  rintro e w3 ⟨rfl, ho, hb⟩
  have HO3 := Lib.hid ho
  have HB3 := Lib.hid hb
  clear ho hb
  go_wp2_with fail
  refine (clip_any g _ cp _ HO3.out.hcap HO3.out.mx).mono ?_
  rintro e w4 ⟨rfl, rfl⟩
  go_wp2_with fail
  go_ret
  exact ⟨_, _, rfl, HO3.out.clipped, HB3.out⟩
theorem norm_any (a : Option Addr) (cap : Nat) (c : List Int) (w : World) (h : ValRow w (.slice a c.length cap) (intVals c)) (hlen : c.length ≤ 1000000) (hl : ∀ x ∈ c, -1000000 ≤ x ∧ x ≤ 1000000) :
    Calls Try.prog 16 #[.slice a c.length cap] w (SliceOf w (normL c)) := by
  cases a with
  | none =>
    have hc : c = [] := by
      rcases h with ⟨_, _, _, h2⟩ | ⟨b, off, cap', h1, _⟩
      · simpa [intVals] using h2
      · simp at h1
    subst hc
    have : normL [] = [] := List.eq_nil_of_length_eq_zero (Nat.le_zero.1 (normL_len []))
    rw [this]
    exact norm_nil cap w
  | some ad => exact norm_some ad cap c w h hlen hl
end Go.Proofs.Yteimfcokobdldaa
