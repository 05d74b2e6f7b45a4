/- The walk of NameRanks: for every three texts it returns true and changes nothing that was there. -/
import Derived.Test.YtolmhigekkoikaaNamI
namespace Go.Proofs.Ytolmhigekkoikaa
open Go.RowKit
set_option linter.unusedVariables false
theorem star_end (l : List UInt8) (h : starL l = true) : l = headL l ++ [42] := by
  have hp := star_pos l h
  rw [star_of l hp, by8_mem l _ (by omega)] at h
  have h42 : l[l.length - 1] = 42 := UInt8.toNat_inj.1 (beq_iff_eq.1 h)
  unfold headL
  rw [← h42]
  have := List.take_append_drop (l.length - 1) l
  rw [List.drop_eq_getElem_cons (by omega), List.drop_eq_nil_of_le (by omega)] at this
  exact this.symm
theorem rank_law (g h s : List UInt8) (h1 : matchL g s = true) (h2 : matchL h s = true) (hne : g ≠ h) : weightL g ≠ weightL h := by
  unfold matchL at h1 h2
  simp only [Bool.and_eq_true] at h1 h2
  unfold weightL
  rw [if_pos h1.1.1, if_pos h2.1.1]
  have h1 := h1.2
  have h2 := h2.2
  by_cases sg : starL g = true
  · rw [if_pos sg] at h1 ⊢
    have pg := star_pos g sg
    by_cases sh : starL h = true
    · rw [if_pos sh] at h2 ⊢
      have ph := star_pos h sh
      intro e
      have el : g.length = h.length := by omega
      rw [Bool.and_eq_true] at h1 h2
      have e1 := beq_iff_eq.1 h1.2
      have e2 := beq_iff_eq.1 h2.2
      rw [el] at e1
      have eh : headL g = headL h := e1.symm.trans e2
      apply hne
      rw [star_end g sg, star_end h sh, eh]
    · rw [if_neg sh]
      omega
  · rw [if_neg sg] at h1 ⊢
    by_cases sh : starL h = true
    · rw [if_pos sh]; omega
    · rw [if_neg sh] at h2 ⊢
      exact absurd ((beq_iff_eq.1 h1).trans (beq_iff_eq.1 h2).symm) hne
set_option maxHeartbeats 1600000 in
theorem nameRanks_list (g h s : List UInt8) (w : World) (hg : g.length ≤ 9223372036854775807) (hh : h.length ≤ 9223372036854775807) (hs : s.length ≤ 9223372036854775807) :
    Calls Try.prog 6 #[.string ⟨g.toArray⟩, .string ⟨h.toArray⟩, .string ⟨s.toArray⟩] w fun e w' => e = .returned (.bool true) ∧ Below w.heap.size w w' := by
  by_cases b1 : 100 < g.length
  · have hd : decide ((100 : Int) < (g.length : Int)) = true := by simp; omega
    go_enter Try.func6, Try.ntmps6
    go_wp2_with fail
    refine (named_any _).mono ?_
    rintro e w1 ⟨rfl, hb1⟩
    go_wp2_with fail
    go_ret
    exact ⟨rfl, hb1⟩
  · have hd1 : decide ((100 : Int) < (g.length : Int)) = false := by simp; omega
    by_cases b2 : 100 < h.length
    · have hd2 : decide ((100 : Int) < (h.length : Int)) = true := by simp; omega
      go_enter Try.func6, Try.ntmps6
      go_wp2_with fail
      refine (named_any _).mono ?_
      rintro e w1 ⟨rfl, hb1⟩
      go_wp2_with fail
      go_ret
      exact ⟨rfl, hb1⟩
    · have hd2 : decide ((100 : Int) < (h.length : Int)) = false := by simp; omega
      by_cases b3 : 100 < s.length
      · have hd3 : decide ((100 : Int) < (s.length : Int)) = true := by simp; omega
        go_enter Try.func6, Try.ntmps6
        go_wp2_with fail
        refine (named_any _).mono ?_
        rintro e w1 ⟨rfl, hb1⟩
        go_wp2_with fail
        go_ret
        exact ⟨rfl, hb1⟩
      · have hd3 : decide ((100 : Int) < (s.length : Int)) = false := by simp; omega
        have hlaw := rank_law g h s
        generalize hx : matchL g s = x at *
        generalize hy : matchL h s = y at *
        have HX := Lib.hid hx
        have HY := Lib.hid hy
        clear hx hy
        cases x
        · clear hlaw
          go_enter Try.func6, Try.ntmps6
          go_wp2_with fail
          refine (named_any _).mono ?_
          rintro e w1 ⟨rfl, hb1⟩
          go_wp2_with fail
          refine (match_is g s false _ (by omega) (by omega) HX).mono ?_
          rintro e w2 ⟨rfl, hb2⟩
          go_wp2_with fail
          go_ret
          exact ⟨rfl, bthen hb1 hb2⟩
        · cases y
          · clear hlaw
            go_enter Try.func6, Try.ntmps6
            go_wp2_with fail
            refine (named_any _).mono ?_
            rintro e w1 ⟨rfl, hb1⟩
            go_wp2_with fail
            refine (match_is g s true _ (by omega) (by omega) HX).mono ?_
            rintro e w2 ⟨rfl, hb2⟩
            go_wp2_with fail
            refine (match_is h s false _ (by omega) (by omega) HY).mono ?_
            rintro e w3 ⟨rfl, hb3⟩
            go_wp2_with fail
            go_ret
            exact ⟨rfl, bthen (bthen hb1 hb2) hb3⟩
          · by_cases heq : g = h
            · have hq : (g == h) = true := by simp [heq]
              clear hlaw heq
              go_enter Try.func6, Try.ntmps6
              go_wp2_with fail
              refine (named_any _).mono ?_
              rintro e w1 ⟨rfl, hb1⟩
              go_wp2_with fail
              refine (match_is g s true _ (by omega) (by omega) HX).mono ?_
              rintro e w2 ⟨rfl, hb2⟩
              go_wp2_with fail
              refine (match_is h s true _ (by omega) (by omega) HY).mono ?_
              rintro e w3 ⟨rfl, hb3⟩
              go_wp2_with fail
              go_ret
              exact ⟨rfl, bthen (bthen hb1 hb2) hb3⟩
            · have hq : (g == h) = false := beq_eq_false_iff_ne.2 heq
              have hn := hlaw rfl rfl heq
              generalize hwg : weightL g = p at *
              generalize hwh : weightL h = q at *
              have HP := Lib.hid hwg
              have HQ := Lib.hid hwh
              have hnn : (p != q) = true := bne_iff_ne.2 hn
              clear hlaw heq hwg hwh hn
              go_enter Try.func6, Try.ntmps6
              go_wp2_with fail
              refine (named_any _).mono ?_
              rintro e w1 ⟨rfl, hb1⟩
              go_wp2_with fail
              refine (match_is g s true _ (by omega) (by omega) HX).mono ?_
              rintro e w2 ⟨rfl, hb2⟩
              go_wp2_with fail
              refine (match_is h s true _ (by omega) (by omega) HY).mono ?_
              rintro e w3 ⟨rfl, hb3⟩
              go_wp2_with fail
              refine (weight_is g p _ (by omega) HP).mono ?_
              rintro e w4 ⟨rfl, hb4⟩
              go_wp2_with fail
              refine (weight_is h q _ (by omega) HQ).mono ?_
              rintro e w5 ⟨rfl, hb5⟩
              go_wp2_with fail
              go_ret
              exact ⟨rfl, bthen (bthen (bthen (bthen hb1 hb2) hb3) hb4) hb5⟩
theorem nameRanks_walk (a0 : ByteArray) (a1 : ByteArray) (a2 : ByteArray) (w0 : a0.size ≤ maxLen) (w1 : a1.size ≤ maxLen) (w2 : a2.size ≤ maxLen) (w : World) :
    Calls Try.prog 6 #[.string a0, .string a1, .string a2] w fun e w' => e = .returned (.bool true) ∧ Below w.heap.size w w' :=
  nameRanks_list a0.data.toList a1.data.toList a2.data.toList w w0 w1 w2
end Go.Proofs.Ytolmhigekkoikaa
