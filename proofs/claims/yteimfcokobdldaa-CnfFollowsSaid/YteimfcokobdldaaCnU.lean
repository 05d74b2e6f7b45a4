/- The program's Resolve. -/
import Derived.Test.YteimfcokobdldaaCnT
namespace Go.Proofs.Yteimfcokobdldaa
open Go.RowKit
set_option linter.unusedVariables false
/-- what follows from two clauses, before it is put in order -/
def bothL (A B : List Int) (v : Int) : List Int := withoutL A v ++ withoutL B (-v)
def resB (A B : List Int) (v : Int) : Bool := decide (1 ≤ v) && hasB A v && hasB B (-v) && !tautB (bothL A B v)
def resL (A B : List Int) (v : Int) : List Int := normL (bothL A B v)
theorem hasB_row {w : World} {a : Option Addr} {cap : Nat} {c : List Int} {x : Int} (h : ValRow w (.slice a c.length cap) (intVals c)) (hh : hasB c x = true) : ∃ b off, a = some ⟨b, off, none⟩ := by
  have hm := hasB_mem hh
  obtain ⟨b, off, h1, _⟩ := int_at h 0 (List.length_pos_of_mem hm)
  exact ⟨b, off, h1⟩
theorem lits_without {c : List Int} (v : Int) (h : Lits c) : Lits (withoutL c v) := fun x hx => h x (List.mem_filter.1 hx).1
theorem lits_both {A B : List Int} (v : Int) (hA : Lits A) (hB : Lits B) : Lits (bothL A B v) := fun x hx => (List.mem_append.1 hx).elim (lits_without v hA x) (lits_without (-v) hB x)
theorem lits_norm {c : List Int} (h : Lits c) : Lits (normL c) := fun x hx => h x ((normL_mem c x).1 hx)
theorem tautB_norm (c : List Int) : tautB (normL c) = tautB c := by
  unfold tautB hasB
  rw [Bool.eq_iff_iff, List.any_eq_true, List.any_eq_true]
  constructor
  · rintro ⟨x, hx, h⟩
    obtain ⟨y, hy, e⟩ := List.any_eq_true.1 h
    exact ⟨x, (normL_mem c x).1 hx, List.any_eq_true.2 ⟨y, (normL_mem c y).1 hy, e⟩⟩
  · rintro ⟨x, hx, h⟩
    obtain ⟨y, hy, e⟩ := List.any_eq_true.1 h
    exact ⟨x, (normL_mem c x).2 hx, List.any_eq_true.2 ⟨y, (normL_mem c y).2 hy, e⟩⟩
def ResPost (w : World) (A B : List Int) (v : Int) (e : Ending) (w' : World) : Prop :=
  (resB A B v = false ∧ e = .returned (.tuple #[.slice none 0 0, .int .i64 9]) ∧ Below w.heap.size w w') ∨
  (resB A B v = true ∧ ∃ a cap, e = .returned (.tuple #[.slice a (resL A B v).length cap, .int .i64 0]) ∧ ValRow w' (.slice a (resL A B v).length cap) (intVals (resL A B v)) ∧ Below w.heap.size w w')
theorem two_row {w : World} {va vb : Value} {A B : List Int} (ha : ValRow w va (intVals A)) (hb : ValRow w vb (intVals B)) (T : TypeId) (hA : Lits A) (hB : Lits B) :
    RowOf 1 IntsC (w.alloc (.cells #[va, vb] T)) (.slice (some ⟨w.heap.size, 0, none⟩) 2 2) [A, B] := by
  have hbw : Below w.heap.size w (w.alloc (.cells #[va, vb] T)) := (Below.refl _ _).alloc (Nat.le_refl _) _
  have hv := varAt_new w #[va, vb] T _ rfl
  refine .inr ⟨w.heap.size, 0, 2, rfl, by simp, by unfold maxLen; decide, by simp, fun i hi => ?_⟩
  have hi2 : i = 0 ∨ i = 1 := by simp at hi; omega
  rcases hi2 with rfl | rfl
  · refine ⟨[va], ⟨rfl, fun j hj => ?_⟩, va, rfl, ha.below hbw, fun y hy => by have := hA y hy; omega⟩
    obtain rfl : j = 0 := by omega
    exact hv.cell 0 (by simp)
  · refine ⟨[vb], ⟨rfl, fun j hj => ?_⟩, vb, rfl, hb.below hbw, fun y hy => by have := hB y hy; omega⟩
    obtain rfl : j = 0 := by omega
    exact hv.cell 1 (by simp)
set_option maxHeartbeats 1600000 in
theorem resolve_any (aa : Option Addr) (ac : Nat) (A : List Int) (ba : Option Addr) (bc : Nat) (B : List Int) (v : Int) (w : World) (ha : ValRow w (.slice aa A.length ac) (intVals A)) (hb : ValRow w (.slice ba B.length bc) (intVals B))
    (hA : Lits A) (hB : Lits B) (hla : A.length ≤ 100000) (hlb : B.length ≤ 100000) (hv : -9223372036854775808 ≤ v ∧ v ≤ 9223372036854775807) :
    Calls Try.prog 23 #[.slice aa A.length ac, .slice ba B.length bc, .int .i64 v] w (ResPost w A B v) := by
  have HA := Lib.hid ha
  have HB := Lib.hid hb
  have HLA := Lib.hid hA
  have HLB := Lib.hid hB
  have HD := Lib.hid (show resB A B v = (decide (1 ≤ v) && hasB A v && hasB B (-v) && !tautB (bothL A B v)) from rfl)
  clear ha hb hA hB
  by_cases h1 : v < 1
  · have d1 : decide (v < 1) = true := decide_eq_true h1
    have HR : Hid (resB A B v = false) := Lib.hid (by rw [HD.out, decide_eq_false (show ¬ 1 ≤ v by omega)]; rfl)
    go_enter Try.func23, Try.ntmps23
    go_wp2_with fail
    go_ret2
    exact .inl ⟨HR.out, rfl, Below.refl _ _⟩
  · have d1 : decide (v < 1) = false := decide_eq_false h1
    have v1 : decide (1 ≤ v) = true := decide_eq_true (by omega)
    have HV1 := Lib.hid v1
    clear v1
    obtain ⟨u1, hu1⟩ : ∃ u, hasB A v = u := ⟨_, rfl⟩
    have HU1 := Lib.hid hu1
    clear hu1
    cases u1 with
    | false =>
      have HR : Hid (resB A B v = false) := Lib.hid (by rw [HD.out, HU1.out, HV1.out]; rfl)
      go_enter Try.func23, Try.ntmps23
      go_wp2_with fail
      refine (contains_any aa ac A v _ HA.out false HU1).mono ?_
      rintro e w1 ⟨rfl, rfl⟩
      go_wp2_with fail
      go_ret2
      exact .inl ⟨HR.out, rfl, Below.refl _ _⟩
    | true =>
      obtain ⟨u2, hu2⟩ : ∃ u, hasB B (-v) = u := ⟨_, rfl⟩
      have HU2 := Lib.hid hu2
      clear hu2
      cases u2 with
      | false =>
        have HR : Hid (resB A B v = false) := Lib.hid (by rw [HD.out, HU1.out, HV1.out, HU2.out]; rfl)
        go_enter Try.func23, Try.ntmps23
        go_wp2_with fail
        refine (contains_any aa ac A v _ HA.out true HU1).mono ?_
        rintro e w1 ⟨rfl, rfl⟩
        go_wp2_with fail
        refine (contains_any ba bc B (-v) _ HB.out false HU2).mono ?_
        rintro e w1 ⟨rfl, rfl⟩
        go_wp2_with fail
        go_ret2
        exact .inl ⟨HR.out, rfl, Below.refl _ _⟩
      | true =>
        obtain ⟨b1, o1, rfl⟩ := hasB_row HA.out HU1.out
        obtain ⟨b2, o2, rfl⟩ := hasB_row HB.out HU2.out
        obtain ⟨u3, hu3⟩ : ∃ u, tautB (bothL A B v) = u := ⟨_, rfl⟩
        have HU3 := Lib.hid hu3
        have HR : Hid (resB A B v = !u3) := Lib.hid (by rw [HD.out, HU1.out, HV1.out, HU2.out, hu3]; rfl)
        clear hu3
        have hmf : ∀ (fn : Fn) (first cap : Array Value) (w : World), (Instr.makeFunc fn first cap).run Try.prog w = .ok (.func fn first cap) w := fun _ _ _ _ => rfl
        go_enter Try.func23, Try.ntmps23
        go_wp2_with fail
        refine (contains_any _ ac A v _ HA.out true HU1).mono ?_
        rintro e w1 ⟨rfl, rfl⟩
        go_wp2_with fail
        refine (contains_any _ bc B (-v) _ HB.out true HU2).mono ?_
        rintro e w1 ⟨rfl, rfl⟩
        go_wp2_with fail
        refine (without_any ⟨b1, o1, none⟩ ac A v _ HA.out (by omega)).mono ?_
        rintro e w1 ⟨xa, xc, rfl, hx, hbx⟩
        have HX := Lib.hid hx
        have HBX := Lib.hid hbx
        have HB1 := Lib.hid (HB.out.below hbx)
        clear hx hbx
        go_wp2_with fail
        refine (without_any ⟨b2, o2, none⟩ bc B (-v) _ HB1.out (by omega)).mono ?_
        rintro e w2 ⟨ya, yc, rfl, hy, hby⟩
        have HY := Lib.hid hy
        have HX2 := Lib.hid (HX.out.below hby)
        have HB2 := Lib.hid (HBX.out.trans (hby.mono HBX.out.size))
        clear hy hby
        have hrow := two_row HX2.out HY.out 31 (lits_without v HLA.out) (lits_without (-v) HLB.out)
        have HROW := Lib.hid hrow
        have HFL : Hid ([withoutL A v, withoutL B (-v)].flatten = bothL A B v) := Lib.hid (by simp [bothL])
        have l1 : (withoutL A v).length ≤ A.length := List.length_filter_le _ _
        have l2 : (withoutL B (-v)).length ≤ B.length := List.length_filter_le _ _
        have l3 : (bothL A B v).length = (withoutL A v).length + (withoutL B (-v)).length := List.length_append
        have L3 : Hid ((bothL A B v).length ≤ 1000000) := Lib.hid (by omega)
        clear hrow l1 l2 l3
        go_wp2_with fail
        have hcc := concat_any _ 2 [withoutL A v, withoutL B (-v)] _ HROW.out (by simp) (by rw [HFL.out]; exact L3.out)
        rw [HFL.out] at hcc
        refine hcc.mono ?_
        clear hcc
        rintro e w3 ⟨za, zc, rfl, hz, hbz⟩
        have HZ := Lib.hid hz
        have HB3 : Hid (Below w.heap.size w w3) := Lib.hid ((HB2.out.alloc HB2.out.size _).trans (hbz.mono (HB2.out.alloc HB2.out.size _).size))
        clear hz hbz
        go_wp2_with fail
        refine (norm_any za zc (bothL A B v) _ HZ.out L3.out (fun x hx => (lits_both v HLA.out HLB.out x hx).2)).mono ?_
        rintro e w4 ⟨na, nc, rfl, hn, hbn⟩
        have HN := Lib.hid hn
        have HB4 := Lib.hid (HB3.out.trans (hbn.mono HB3.out.size))
        clear hn hbn
        go_wp2_with fail
        refine (taut_any na nc (normL (bothL A B v)) _ HN.out (lits_norm (lits_both v HLA.out HLB.out)) u3 (Lib.hid (by rw [tautB_norm]; exact HU3.out))).mono ?_
        rintro e w5 ⟨rfl, hb5⟩
        have HN5 := Lib.hid (HN.out.below hb5)
        have HB5 := Lib.hid (HB4.out.trans (hb5.mono HB4.out.size))
        clear hb5
        cases u3 with
        | true =>
          go_wp2_with fail
          go_ret2
          exact .inl ⟨HR.out, rfl, HB5.out⟩
        | false =>
          go_wp2_with fail
          go_ret2
          exact .inr ⟨HR.out, na, nc, rfl, HN5.out, HB5.out⟩
end Go.Proofs.Yteimfcokobdldaa
