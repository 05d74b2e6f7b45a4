/- The reference's Resolve. -/
import Derived.Test.YteimfcokobdldaaCnU
namespace Go.Proofs.Yteimfcokobdldaa
open Go.RowKit
set_option linter.unusedVariables false
theorem withoutL_snoc (c : List Int) (x v : Int) : withoutL (c ++ [x]) v = withoutL c v ++ (if x = v then [] else [x]) := by
  unfold withoutL
  rw [List.filter_append]
  by_cases h : x = v <;> simp [h]
def RResPost (w : World) (A B : List Int) (v : Int) (e : Ending) (w' : World) : Prop :=
  (resB A B v = false ∧ e = .returned (.tuple #[.slice none 0 0, .bool false]) ∧ Below w.heap.size w w') ∨
  (resB A B v = true ∧ ∃ a cap, e = .returned (.tuple #[.slice a (resL A B v).length cap, .bool true]) ∧ ValRow w' (.slice a (resL A B v).length cap) (intVals (resL A B v)) ∧ Below w.heap.size w w')
set_option maxRecDepth 100000 in
set_option maxHeartbeats 1600000 in
theorem rresolve_any (aa : Option Addr) (ac : Nat) (A : List Int) (ba : Option Addr) (bc : Nat) (B : List Int) (v : Int) (w : World) (ha : ValRow w (.slice aa A.length ac) (intVals A)) (hb : ValRow w (.slice ba B.length bc) (intVals B))
    (hA : Lits A) (hB : Lits B) (hla : A.length ≤ 100000) (hlb : B.length ≤ 100000) (hv : -9223372036854775808 ≤ v ∧ v ≤ 9223372036854775807) :
    Calls Try.prog 24 #[.slice aa A.length ac, .slice ba B.length bc, .int .i64 v] w (RResPost w A B v) := by
  have HA := Lib.hid ha
  have HB := Lib.hid hb
  have HLA := Lib.hid hA
  have HLB := Lib.hid hB
  have HD := Lib.hid (show resB A B v = (decide (1 ≤ v) && hasB A v && hasB B (-v) && !tautB (bothL A B v)) from rfl)
  clear ha hb hA hB
  by_cases h1 : v < 1
  · have d1 : decide (v < 1) = true := decide_eq_true h1
    have HR : Hid (resB A B v = false) := Lib.hid (by rw [HD.out, decide_eq_false (show ¬ 1 ≤ v by omega)]; rfl)
    go_enter Try.func24, Try.ntmps24
    go_wp2_with fail
    go_ret2
    exact .inl ⟨HR.out, rfl, Below.refl _ _⟩
  · have d1 : decide (v < 1) = false := decide_eq_false h1
    have v1 : decide (1 ≤ v) = true := decide_eq_true (by omega)
    have HV1 := Lib.hid v1
    clear v1
    obtain ⟨u1, hu1⟩ : ∃ u, hasB A v = u := ⟨_, rfl⟩
    have HU1 := Lib.hid hu1
    clear hu1
    cases u1 with
    | false =>
      have HR : Hid (resB A B v = false) := Lib.hid (by rw [HD.out, HU1.out, HV1.out]; rfl)
      go_enter Try.func24, Try.ntmps24
      go_wp2_with fail
      refine (has_any aa ac A v _ HA.out false HU1).mono ?_
      rintro e w1 ⟨rfl, rfl⟩
      go_wp2_with fail
      go_ret2
      exact .inl ⟨HR.out, rfl, Below.refl _ _⟩
    | true =>
      obtain ⟨u2, hu2⟩ : ∃ u, hasB B (-v) = u := ⟨_, rfl⟩
      have HU2 := Lib.hid hu2
      clear hu2
      cases u2 with
      | false =>
        have HR : Hid (resB A B v = false) := Lib.hid (by rw [HD.out, HU1.out, HV1.out, HU2.out]; rfl)
        go_enter Try.func24, Try.ntmps24
        go_wp2_with fail
        refine (has_any aa ac A v _ HA.out true HU1).mono ?_
        rintro e w1 ⟨rfl, rfl⟩
        go_wp2_with fail
        refine (has_any ba bc B (-v) _ HB.out false HU2).mono ?_
        rintro e w1 ⟨rfl, rfl⟩
        go_wp2_with fail
        go_ret2
        exact .inl ⟨HR.out, rfl, Below.refl _ _⟩
      | true =>
        obtain ⟨u3, hu3⟩ : ∃ u, tautB (bothL A B v) = u := ⟨_, rfl⟩
        have HU3 := Lib.hid hu3
        have HR : Hid (resB A B v = !u3) := Lib.hid (by rw [HD.out, HU1.out, HV1.out, HU2.out, hu3]; rfl)
        clear hu3
        obtain ⟨i0, hi0, hz0, hz1, hz2⟩ := info_parts' infoI
        have HI0 := Lib.hid hi0
        have HZ0 := Lib.hid hz0
        have HZ1 := Lib.hid hz1
        have HZ2 := Lib.hid hz2
        clear hi0 hz0 hz1 hz2
        have LW : Hid (∀ (c : List Int) (u : Int) (k : Nat), (withoutL (c.take k) u).length ≤ c.length) := Lib.hid (fun c u k => Nat.le_trans (List.length_filter_le _ _) (by rw [List.length_take]; omega))
        go_enter Try.func24, Try.ntmps24
        go_wp2_with fail
        refine (has_any _ ac A v _ HA.out true HU1).mono ?_
        rintro e w1 ⟨rfl, rfl⟩
        go_wp2_with fail
        refine (has_any _ bc B (-v) _ HB.out true HU2).mono ?_
        rintro e w1 ⟨rfl, rfl⟩
        go_wp2_with fail
        go_loopw [8, 9] (fun s i wr => ∃ k : Nat, i = .int .i64 k ∧ k ≤ A.length ∧ OwnV w.heap.size 3 w wr s (intVals (withoutL (A.take k) v))) (fun _ i _ => A.length - (intOf i).toNat)
        case atStart => exact ⟨0, rfl, Nat.zero_le _, OwnV.none _ _ _ (Nat.le_refl _)⟩
        case round =>
          obtain ⟨k, rfl, hk, hS⟩ := hrel
          have HS := Lib.hid hS
          clear hS
          have k0 : (0 : Int) ≤ (k : Int) := by omega
          obtain ⟨sa, sc, rfl⟩ := HS.out.row.shape
          by_cases hlt : k < A.length
          · have k1 : (k : Int) < (A.length : Int) := by omega
            have hdk : decide (k < A.length) = true := decide_eq_true hlt
            obtain ⟨b, off, rfl, _, hc⟩ := int_at (HA.out.below HS.out.be) k hlt
            have e : A.getD k 0 = A[k] := by simp [hlt]
            have HTK := Lib.hid (List.take_succ_eq_append_getElem hlt)
            rw [← e] at HTK
            clear e
            obtain ⟨x, hx⟩ : ∃ x, A.getD k 0 = x := ⟨_, rfl⟩
            rw [hx] at hc HTK
            clear hx
            have hln := LW.out A v k
            by_cases hxv : x = v
            · have e0 := inf hxv
              have HNX : Hid (withoutL (A.take (k + 1)) v = withoutL (A.take k) v) := Lib.hid (by rw [HTK.out, withoutL_snoc, if_pos hxv, List.append_nil])
              clear hxv
              go_wp2_with fail
              go_roundw
              case rel => exact ⟨k + 1, by go_num, by omega, by rw [HNX.out]; exact HS.out⟩
              case measure => simp [intOf]; omega
            · have e0 := ine hxv
              have HNX : Hid (withoutL (A.take (k + 1)) v = withoutL (A.take k) v ++ [x]) := Lib.hid (by rw [HTK.out, withoutL_snoc, if_neg hxv])
              have hbz := HS.out.bsz
              clear hxv
              go_wp2_with (at_builtin; refine wpList_app _ rfl _ _ 31 rfl w.heap.size 3 i0 (.int .i64 0) 8 Try.underlying31 HI0.out HZ0.out HZ1.out HZ2.out rfl _ _ _ rfl (HS.out.own.alloc _) (.slice (some ⟨wr.heap.size, 0, none⟩) 1 1) (intVals [x]) rfl (fresh_row _ _ _ _ rfl) (intVals_one _) (by rw [intVals_length, intVals_length]; unfold maxLen; simp; omega) (by rw [intVals_length, intVals_length]; simp; omega) (by simp; omega) ?_)
              intro v2 w2 ha2
              have HS2 : Hid (OwnV w.heap.size 3 w w2 v2 (intVals (withoutL (A.take (k + 1)) v))) := Lib.hid (by
                rw [HNX.out, intVals_app]
                exact HS.out.app ((Below.refl _ _).alloc (Nat.le_refl _) _) ha2)
              obtain ⟨a2, n2, c2, rfl⟩ := ha2.shape
              clear ha2
              go_wp2_with fail
              go_roundw
              case rel => exact ⟨k + 1, by go_num, by omega, HS2.out⟩
              case measure => simp [intOf]; omega
          · have hdk : decide (k < A.length) = false := decide_eq_false hlt
            have HSA : Hid (OwnV w.heap.size 3 w wr (.slice sa (intVals (withoutL (A.take k) v)).length sc) (intVals (withoutL A v ++ withoutL (B.take 0) (-v)))) := Lib.hid (by
              have := HS.out
              rw [show A.take k = A from List.take_of_length_le (by omega)] at this ⊢
              simpa [withoutL] using this)
            have HLT := Lib.hid hlt
            have hla2 : (withoutL A v).length ≤ A.length := List.length_filter_le _ _
            clear hlt HS
            obtain ⟨sl, hsl⟩ : ∃ n, (intVals (withoutL (A.take k) v)).length = n := ⟨_, rfl⟩
            rw [hsl] at HSA ⊢
            clear hsl
            go_wp2_with fail
            obtain ⟨wo, hwo⟩ : ∃ wo, wo = wr := ⟨_, rfl⟩
            subst hwo
            go_loopw [8, 10] (fun s i wr => ∃ q : Nat, i = .int .i64 q ∧ q ≤ B.length ∧ OwnV w.heap.size 3 w wr s (intVals (withoutL A v ++ withoutL (B.take q) (-v)))) (fun _ i _ => B.length - (intOf i).toNat)
            case atStart => exact ⟨0, rfl, Nat.zero_le _, HSA.out⟩
            case round =>
              obtain ⟨q, rfl, hq, hS⟩ := hrel
              have HS := Lib.hid hS
              clear hS
              have q0 : (0 : Int) ≤ (q : Int) := by omega
              obtain ⟨ta, tc, rfl⟩ := HS.out.row.shape
              by_cases hqt : q < B.length
              · have q1 : (q : Int) < (B.length : Int) := by omega
                have hdq : decide (q < B.length) = true := decide_eq_true hqt
                obtain ⟨b, off, rfl, _, hc⟩ := int_at (HB.out.below HS.out.be) q hqt
                have e : B.getD q 0 = B[q] := by simp [hqt]
                have HTK := Lib.hid (List.take_succ_eq_append_getElem hqt)
                rw [← e] at HTK
                clear e
                obtain ⟨x, hx⟩ : ∃ x, B.getD q 0 = x := ⟨_, rfl⟩
                rw [hx] at hc HTK
                clear hx
                have hln := LW.out B (-v) q
                by_cases hxv : x = -v
                · have e0 := inf hxv
                  have HNX : Hid (withoutL (B.take (q + 1)) (-v) = withoutL (B.take q) (-v)) := Lib.hid (by rw [HTK.out, withoutL_snoc, if_pos hxv, List.append_nil])
                  clear hxv
                  go_wp2_with fail
                  go_roundw
                  case rel => exact ⟨q + 1, by go_num, by omega, by rw [HNX.out]; exact HS.out⟩
                  case measure => simp [intOf]; omega
                · have e0 := ine hxv
                  have HNX : Hid (withoutL A v ++ withoutL (B.take (q + 1)) (-v) = (withoutL A v ++ withoutL (B.take q) (-v)) ++ [x]) := Lib.hid (by rw [HTK.out, withoutL_snoc, if_neg hxv, List.append_assoc])
                  have hbz := HS.out.bsz
                  clear hxv
                  go_wp2_with (at_builtin; refine wpList_app _ rfl _ _ 31 rfl w.heap.size 3 i0 (.int .i64 0) 8 Try.underlying31 HI0.out HZ0.out HZ1.out HZ2.out rfl _ _ _ rfl (HS.out.own.alloc _) (.slice (some ⟨wr.heap.size, 0, none⟩) 1 1) (intVals [x]) rfl (fresh_row _ _ _ _ rfl) (intVals_one _) (by rw [intVals_length, intVals_length, List.length_append]; unfold maxLen; simp; omega) (by rw [intVals_length, intVals_length, List.length_append]; simp; omega) (by simp; omega) ?_)
                  intro v2 w2 ha2
                  have HS2 : Hid (OwnV w.heap.size 3 w w2 v2 (intVals (withoutL A v ++ withoutL (B.take (q + 1)) (-v)))) := Lib.hid (by
                    rw [HNX.out, intVals_app]
                    exact HS.out.app ((Below.refl _ _).alloc (Nat.le_refl _) _) ha2)
                  obtain ⟨a2, n2, c2, rfl⟩ := ha2.shape
                  clear ha2
                  go_wp2_with fail
                  go_roundw
                  case rel => exact ⟨q + 1, by go_num, by omega, HS2.out⟩
                  case measure => simp [intOf]; omega
              · have hdq : decide (q < B.length) = false := decide_eq_false hqt
                have hlb2 : (withoutL B (-v)).length ≤ B.length := List.length_filter_le _ _
                have hrow := HS.out.row
                rw [show B.take q = B from List.take_of_length_le (by omega)] at hrow ⊢
                have HBE := Lib.hid HS.out.be
                have hL : withoutL A v ++ withoutL B (-v) = bothL A B v := rfl
                have hll : (bothL A B v).length ≤ 1000000 := by rw [← hL, List.length_append]; omega
                rw [hL, intVals_length] at hrow ⊢
                have HROW := Lib.hid hrow
                have HQT := Lib.hid hqt
                clear hqt HS hrow hL
                go_wp2_with fail
                refine (rtaut_any ta tc (bothL A B v) _ HROW.out (lits_both v HLA.out HLB.out) u3 HU3).mono ?_
                rintro e w5 ⟨rfl, rfl⟩
                cases u3 with
                | true =>
                  go_wp2_with fail
                  go_ret2
                  exact .inl ⟨HR.out, rfl, HBE.out⟩
                | false =>
                  go_wp2_with fail
                  refine (rnorm_any ta tc (bothL A B v) _ HROW.out hll (fun x hx => (lits_both v HLA.out HLB.out x hx).2)).mono ?_
                  rintro e w6 ⟨na, nc, rfl, hn, hbn⟩
                  have HN := Lib.hid hn
                  have HB4 := Lib.hid (HBE.out.trans (hbn.mono HBE.out.size))
                  clear hn hbn
                  go_wp2_with fail
                  go_ret2
                  exact .inr ⟨HR.out, na, nc, rfl, HN.out, HB4.out⟩
end Go.Proofs.Yteimfcokobdldaa
