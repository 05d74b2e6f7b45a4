/- Parts of the proofs, put together: CnT, CnU, FxP, CnV, CnW, CnX, CnY, CnK, CnZ, CnAA, CnAB. -/
import Derived.Test.YtiimkhnngpfnbaaR14
import Derived.Shelf.Spec.SlicesGrow
/- slices.Grow at a nil slice, slices.Concat. -/
namespace Go.Proofs
open Go.Shelf
def Try.growL_ren : Go.Shelf.Ren := ⟨fun | 4 => 53 | n => n, fun | 0 => 0 | 3 => 3 | 4 => 4 | 9 => 9 | 20 => 20 | 22 => 27 | 25 => 3 | n => n, fun | n => n⟩
theorem Try.growL : Go.Proofs.Lays8.n4 Try.prog Try.growL_ren := {
  mixed := by kernel_rfl
  f4 := ⟨Try.f53.name, by decide, Try.func53.trans (congrArg some (by kernel_rfl))⟩
  t0 := Try.underlying0
  a0 := Try.isAgg0
  z0 := Try.sizeOf0
  v0 := Try.zeroValue0
  t3 := Try.underlying3
  a3 := Try.isAgg3
  z3 := Try.sizeOf3
  v3 := Try.zeroValue3
  t4 := Try.underlying4
  a4 := Try.isAgg4
  z4 := Try.sizeOf4
  v4 := Try.zeroValue4
  t9 := Try.underlying9
  a9 := Try.isAgg9
  z9 := Try.sizeOf9
  v9 := Try.zeroValue9
  t20 := Try.underlying20
  a20 := Try.isAgg20
  z20 := Try.sizeOf20
  v20 := Try.zeroValue20
  t22 := Try.underlying27
  a22 := Try.isAgg27
  z22 := Try.sizeOf27
  v22 := Try.zeroValue27 }
end Go.Proofs
namespace Go.Proofs.Ytiimkhnngpfnbaa
open Go.RowKit
set_option linter.unusedVariables false
theorem heap_new (w : World) (o : Obj) : (w.heap.push o)[w.heap.size]? = some o := by simp
theorem grow_nil (n : Nat) (w : World) (hn : n ≤ 10000000) :
    Calls Try.prog 53 #[.slice none 0 0, .int .i64 n] w fun e w' => ∃ a c, e = .returned (.slice a 0 c) ∧ OwnV w.heap.size 3 w w' (.slice a 0 c) [] := by
  by_cases h0 : n = 0
  · subst h0
    refine (Any8.slices_Grow_room Try.growL none 0 0 0 w (Nat.le_refl _) (by omega) (by omega) (by omega)).mono ?_
    rintro e w' ⟨rfl, rfl⟩
    exact ⟨_, _, rfl, OwnV.none _ _ _ (Nat.le_refl _)⟩
  · obtain ⟨i0, hi0, hz0, hz1, hz2⟩ := info_parts' infoI
    refine (Any8.slices_Grow_grow Try.growL i0 (.int .i64 0) hi0 hz0 (by rw [hz1]; decide) none 0 0 n [] w (Nat.le_refl _) (by omega) (by rw [hz2]; omega) (by omega) (by simp) (fun _ => rfl) (fun a h => by cases h)).mono ?_
    rintro e w' ⟨rfl, rfl⟩
    refine ⟨_, _, rfl, ?_, ?_, by simp, .inr ⟨w.heap.size, _, _, rfl, Nat.le_refl _, heap_new w _, Nat.zero_le _, ?_, ?_, by simp⟩⟩
    · show w.heap.size ≤ (w.heap.push _).size
      simp
    · exact (show Below w.heap.size w w.drew from ⟨rfl, rfl, rfl, Nat.le_refl _, fun _ _ => rfl⟩).trans (show Below w.heap.size w.drew (w.drew.alloc _) from (Below.refl w.drew.heap.size w.drew).alloc (Nat.le_refl _) _)
    · exact grownCap_le_maxLen w _ _ _ (by unfold maxLen; omega)
    · have := grownCap_ge w (0 + n) 0 (Try.growL_ren.t 25)
      rw [Nat.zero_add] at this
      simp [Builtin.zeroCells, Value.cells]
      omega
/-- how many elements the first k clauses have -/
def flatN (LL : List (List Int)) (k : Nat) : Nat := (LL.take k).flatten.length
theorem flat_take (LL : List (List Int)) (k : Nat) (h : k < LL.length) : (LL.take (k + 1)).flatten = (LL.take k).flatten ++ LL.getD k [] := by
  rw [List.take_succ_eq_append_getElem h, List.flatten_append]
  simp [h]
theorem flat_le (LL : List (List Int)) (k : Nat) : (LL.take k).flatten.length ≤ LL.flatten.length := by
  conv => rhs; rw [← List.take_append_drop k LL]
  rw [List.flatten_append, List.length_append]
  omega
theorem flatN_succ (LL : List (List Int)) (k : Nat) (h : k < LL.length) : flatN LL (k + 1) = flatN LL k + (LL.getD k []).length := by unfold flatN; rw [flat_take LL k h, List.length_append]
theorem flatN_le (LL : List (List Int)) (k : Nat) : flatN LL k ≤ LL.flatten.length := flat_le LL k
set_option maxRecDepth 100000 in
set_option maxHeartbeats 1600000 in
theorem concat_any (a : Option Addr) (cap : Nat) (LL : List (List Int)) (w : World) (h : RowOf 1 IntsC w (.slice a LL.length cap) LL) (hl : LL.length ≤ 1000000) (hsum : LL.flatten.length ≤ 1000000) :
    Calls Try.prog 45 #[.slice a LL.length cap] w (SliceOf w LL.flatten) := by
  have H := Lib.hid h
  clear h
  obtain ⟨i0, hi0, hz0, hz1, hz2⟩ := info_parts' infoI
  have HI0 := Lib.hid hi0
  have HZ0 := Lib.hid hz0
  have HZ1 := Lib.hid hz1
  have HZ2 := Lib.hid hz2
  clear hi0 hz0 hz1 hz2
  obtain ⟨N, hN⟩ : ∃ N, LL.flatten.length = N := ⟨_, rfl⟩
  rw [hN] at hsum
  have HFL : Hid (∀ k, flatN LL k ≤ N) := Lib.hid (fun k => by rw [← hN]; exact flatN_le LL k)
  have HN := Lib.hid hN
  clear hN
  go_enter Try.func45, Try.ntmps45
  go_wp2_with fail
  go_loop [3, 11] (fun s i => ∃ k : Nat, i = .int .i64 k ∧ k ≤ LL.length ∧ s = .int .i64 (flatN LL k : Nat)) (fun _ i => LL.length - (intOf i).toNat)
  case atStart => exact ⟨0, rfl, Nat.zero_le _, rfl⟩
  case round =>
    obtain ⟨k, rfl, hk, rfl⟩ := hrel
    have k0 : (0 : Int) ≤ (k : Int) := by omega
    by_cases hlt : k < LL.length
    · have k1 : (k : Int) < (LL.length : Int) := by omega
      have hdk : decide (k < LL.length) = true := decide_eq_true hlt
      obtain ⟨b, off, va, vc, rfl, _, hc, hrw, _⟩ := ints_row H.out k hlt
      have hsm := flatN_succ LL k hlt
      have h2 := HFL.out (k + 1)
      have h1 := HFL.out k
      clear hrw
      obtain ⟨s0, hs0⟩ : ∃ s, flatN LL k = s := ⟨_, rfl⟩
      obtain ⟨s1, hs1⟩ : ∃ s, flatN LL (k + 1) = s := ⟨_, rfl⟩
      obtain ⟨q, hq⟩ : ∃ s, (LL.getD k []).length = s := ⟨_, rfl⟩
      rw [hs0, hs1, hq] at hsm
      rw [hs0] at h1 ⊢
      rw [hs1] at h2
      rw [hq] at hc
      have HS1 := Lib.hid hs1
      clear hs0 hs1 hq
      have hd : decide ((s0 : Int) + (q : Int) < 0) = false := decide_eq_false (by omega)
      go_wp2_with fail
      go_round
      case rel => exact ⟨k + 1, by go_num, by omega, by rw [HS1.out, hsm]; go_num⟩
      case measure => simp [intOf]; omega
    · have hdk : decide (k < LL.length) = false := decide_eq_false hlt
      have hke : flatN LL k = N := by unfold flatN; rw [List.take_of_length_le (by omega)]; exact HN.out
      rw [hke]
      have HLT := Lib.hid hlt
      clear hlt hke
      go_wp2_with fail
      refine (grow_nil N _ (by omega)).mono ?_
      rintro e w1 ⟨ga, gc, rfl, hg⟩
      have HG := Lib.hid hg
      have HR := Lib.hid (H.out.below intsC_lasts hg.be)
      clear hg
      go_wp2_with fail
      go_loopw [6, 27] (fun s i wr => ∃ k : Nat, i = .int .i64 k ∧ k ≤ LL.length ∧ OwnV w.heap.size 3 w wr s (intVals (LL.take k).flatten)) (fun _ i _ => LL.length - (intOf i).toNat)
      case atStart => exact ⟨0, rfl, Nat.zero_le _, HG.out⟩
      case round =>
        obtain ⟨q, rfl, hq, hS⟩ := hrel
        have HS := Lib.hid hS
        clear hS
        have q0 : (0 : Int) ≤ (q : Int) := by omega
        by_cases hqt : q < LL.length
        · have q1 : (q : Int) < (LL.length : Int) := by omega
          have hdq : decide (q < LL.length) = true := decide_eq_true hqt
          obtain ⟨b, off, va, vc, rfl, _, hc, hrw, _⟩ := ints_row (H.out.below intsC_lasts HS.out.be) q hqt
          have HRW := Lib.hid hrw
          have HFT := Lib.hid (flat_take LL q hqt)
          have h2 := HFL.out (q + 1)
          have h1 := HFL.out q
          have hsm := flatN_succ LL q hqt
          have hb2 := HS.out.bsz
          obtain ⟨sa, sc, rfl⟩ := HS.out.row.shape
          clear hrw
          obtain ⟨C, hC⟩ : ∃ C, LL.getD q [] = C := ⟨_, rfl⟩
          rw [hC] at hc HRW HFT hsm
          clear hC
          go_wp2_with (at_builtin; refine wpList_app _ rfl _ _ 27 rfl w.heap.size 3 i0 (.int .i64 0) 8 Try.underlying27 HI0.out HZ0.out HZ1.out HZ2.out rfl _ _ _ rfl HS.out.own _ (intVals C) rfl HRW.out (intVals_one _) (by rw [intVals_length, intVals_length]; show flatN LL q + _ ≤ _; unfold maxLen; omega) (by rw [intVals_length, intVals_length]; show (flatN LL q + _) * _ ≤ _; omega) hb2 ?_)
          intro v2 w2 ha2
          have HS2 : Hid (OwnV w.heap.size 3 w w2 v2 (intVals (LL.take (q + 1)).flatten)) := Lib.hid (by
            rw [HFT.out, intVals_app]
            exact HS.out.app (Below.refl _ _) ha2)
          obtain ⟨a2, n2, c2, rfl⟩ := ha2.shape
          clear ha2
          go_wp2_with fail
          go_roundw
          case rel => exact ⟨q + 1, by go_num, by omega, HS2.out⟩
          case measure => simp [intOf]; omega
        · have hdq : decide (q < LL.length) = false := decide_eq_false hqt
          have HV : Hid (OwnV w.heap.size 3 w wr _ (intVals LL.flatten)) := Lib.hid (by have := HS.out; rwa [List.take_of_length_le (by omega)] at this)
          obtain ⟨sa, sc, rfl⟩ := HV.out.row.shape
          have HQT := Lib.hid hqt
          clear hqt HS
          rw [intVals_length] at HV
          rw [intVals_length]
          go_wp2_with fail
          go_ret
          exact ⟨_, _, rfl, HV.out.row, HV.out.be⟩
end Go.Proofs.Ytiimkhnngpfnbaa
/- The program's Resolve. -/
namespace Go.Proofs.Ytiimkhnngpfnbaa
open Go.RowKit
set_option linter.unusedVariables false
/-- what follows from two clauses, before it is put in order -/
def bothL (A B : List Int) (v : Int) : List Int := withoutL A v ++ withoutL B (-v)
def resB (A B : List Int) (v : Int) : Bool := decide (1 ≤ v) && hasB A v && hasB B (-v) && !tautB (bothL A B v)
def resL (A B : List Int) (v : Int) : List Int := normL (bothL A B v)
theorem hasB_row {w : World} {a : Option Addr} {cap : Nat} {c : List Int} {x : Int} (h : ValRow w (.slice a c.length cap) (intVals c)) (hh : hasB c x = true) : ∃ b off, a = some ⟨b, off, none⟩ := by
  have hm := hasB_mem hh
  obtain ⟨b, off, h1, _⟩ := int_at h 0 (List.length_pos_of_mem hm)
  exact ⟨b, off, h1⟩
theorem lits_without {c : List Int} (v : Int) (h : Lits c) : Lits (withoutL c v) := fun x hx => h x (List.mem_filter.1 hx).1
theorem lits_both {A B : List Int} (v : Int) (hA : Lits A) (hB : Lits B) : Lits (bothL A B v) := fun x hx => (List.mem_append.1 hx).elim (lits_without v hA x) (lits_without (-v) hB x)
theorem lits_norm {c : List Int} (h : Lits c) : Lits (normL c) := fun x hx => h x ((normL_mem c x).1 hx)
theorem tautB_norm (c : List Int) : tautB (normL c) = tautB c := by
  unfold tautB hasB
  rw [Bool.eq_iff_iff, List.any_eq_true, List.any_eq_true]
  constructor
  · rintro ⟨x, hx, h⟩
    obtain ⟨y, hy, e⟩ := List.any_eq_true.1 h
    exact ⟨x, (normL_mem c x).1 hx, List.any_eq_true.2 ⟨y, (normL_mem c y).1 hy, e⟩⟩
  · rintro ⟨x, hx, h⟩
    obtain ⟨y, hy, e⟩ := List.any_eq_true.1 h
    exact ⟨x, (normL_mem c x).2 hx, List.any_eq_true.2 ⟨y, (normL_mem c y).2 hy, e⟩⟩
def ResPost (w : World) (A B : List Int) (v : Int) (e : Ending) (w' : World) : Prop :=
  (resB A B v = false ∧ e = .returned (.tuple #[.slice none 0 0, .int .i64 9]) ∧ Below w.heap.size w w') ∨
  (resB A B v = true ∧ ∃ a cap, e = .returned (.tuple #[.slice a (resL A B v).length cap, .int .i64 0]) ∧ ValRow w' (.slice a (resL A B v).length cap) (intVals (resL A B v)) ∧ Below w.heap.size w w')
theorem two_row {w : World} {va vb : Value} {A B : List Int} (ha : ValRow w va (intVals A)) (hb : ValRow w vb (intVals B)) (T : TypeId) (hA : Lits A) (hB : Lits B) :
    RowOf 1 IntsC (w.alloc (.cells #[va, vb] T)) (.slice (some ⟨w.heap.size, 0, none⟩) 2 2) [A, B] := by
  have hbw : Below w.heap.size w (w.alloc (.cells #[va, vb] T)) := (Below.refl _ _).alloc (Nat.le_refl _) _
  have hv := varAt_new w #[va, vb] T _ rfl
  refine .inr ⟨w.heap.size, 0, 2, rfl, by simp, by unfold maxLen; decide, by simp, fun i hi => ?_⟩
  have hi2 : i = 0 ∨ i = 1 := by simp at hi; omega
  rcases hi2 with rfl | rfl
  · refine ⟨[va], ⟨rfl, fun j hj => ?_⟩, va, rfl, ha.below hbw, fun y hy => by have := hA y hy; omega⟩
    obtain rfl : j = 0 := by omega
    exact hv.cell 0 (by simp)
  · refine ⟨[vb], ⟨rfl, fun j hj => ?_⟩, vb, rfl, hb.below hbw, fun y hy => by have := hB y hy; omega⟩
    obtain rfl : j = 0 := by omega
    exact hv.cell 1 (by simp)
set_option maxHeartbeats 1600000 in
theorem resolve_any (aa : Option Addr) (ac : Nat) (A : List Int) (ba : Option Addr) (bc : Nat) (B : List Int) (v : Int) (w : World) (ha : ValRow w (.slice aa A.length ac) (intVals A)) (hb : ValRow w (.slice ba B.length bc) (intVals B))
    (hA : Lits A) (hB : Lits B) (hla : A.length ≤ 100000) (hlb : B.length ≤ 100000) (hv : -9223372036854775808 ≤ v ∧ v ≤ 9223372036854775807) :
    Calls Try.prog 35 #[.slice aa A.length ac, .slice ba B.length bc, .int .i64 v] w (ResPost w A B v) := by
  have HA := Lib.hid ha
  have HB := Lib.hid hb
  have HLA := Lib.hid hA
  have HLB := Lib.hid hB
  have HD := Lib.hid (show resB A B v = (decide (1 ≤ v) && hasB A v && hasB B (-v) && !tautB (bothL A B v)) from rfl)
  clear ha hb hA hB
  by_cases h1 : v < 1
  · have d1 : decide (v < 1) = true := decide_eq_true h1
    have HR : Hid (resB A B v = false) := Lib.hid (by rw [HD.out, decide_eq_false (show ¬ 1 ≤ v by omega)]; rfl)
    go_enter Try.func35, Try.ntmps35
    go_wp2_with fail
    go_ret2
    exact .inl ⟨HR.out, rfl, Below.refl _ _⟩
  · have d1 : decide (v < 1) = false := decide_eq_false h1
    have v1 : decide (1 ≤ v) = true := decide_eq_true (by omega)
    have HV1 := Lib.hid v1
    clear v1
    obtain ⟨u1, hu1⟩ : ∃ u, hasB A v = u := ⟨_, rfl⟩
    have HU1 := Lib.hid hu1
    clear hu1
    cases u1 with
    | false =>
      have HR : Hid (resB A B v = false) := Lib.hid (by rw [HD.out, HU1.out, HV1.out]; rfl)
      go_enter Try.func35, Try.ntmps35
      go_wp2_with fail
      refine (contains_any aa ac A v _ HA.out false HU1).mono ?_
      rintro e w1 ⟨rfl, rfl⟩
      go_wp2_with fail
      go_ret2
      exact .inl ⟨HR.out, rfl, Below.refl _ _⟩
    | true =>
      obtain ⟨u2, hu2⟩ : ∃ u, hasB B (-v) = u := ⟨_, rfl⟩
      have HU2 := Lib.hid hu2
      clear hu2
      cases u2 with
      | false =>
        have HR : Hid (resB A B v = false) := Lib.hid (by rw [HD.out, HU1.out, HV1.out, HU2.out]; rfl)
        go_enter Try.func35, Try.ntmps35
        go_wp2_with fail
        refine (contains_any aa ac A v _ HA.out true HU1).mono ?_
        rintro e w1 ⟨rfl, rfl⟩
        go_wp2_with fail
        refine (contains_any ba bc B (-v) _ HB.out false HU2).mono ?_
        rintro e w1 ⟨rfl, rfl⟩
        go_wp2_with fail
        go_ret2
        exact .inl ⟨HR.out, rfl, Below.refl _ _⟩
      | true =>
        obtain ⟨b1, o1, rfl⟩ := hasB_row HA.out HU1.out
        obtain ⟨b2, o2, rfl⟩ := hasB_row HB.out HU2.out
        obtain ⟨u3, hu3⟩ : ∃ u, tautB (bothL A B v) = u := ⟨_, rfl⟩
        have HU3 := Lib.hid hu3
        have HR : Hid (resB A B v = !u3) := Lib.hid (by rw [HD.out, HU1.out, HV1.out, HU2.out, hu3]; rfl)
        clear hu3
        have hmf : ∀ (fn : Fn) (first cap : Array Value) (w : World), (Instr.makeFunc fn first cap).run Try.prog w = .ok (.func fn first cap) w := fun _ _ _ _ => rfl
        go_enter Try.func35, Try.ntmps35
        go_wp2_with fail
        refine (contains_any _ ac A v _ HA.out true HU1).mono ?_
        rintro e w1 ⟨rfl, rfl⟩
        go_wp2_with fail
        refine (contains_any _ bc B (-v) _ HB.out true HU2).mono ?_
        rintro e w1 ⟨rfl, rfl⟩
        go_wp2_with fail
        refine (without_any ⟨b1, o1, none⟩ ac A v _ HA.out (by omega)).mono ?_
        rintro e w1 ⟨xa, xc, rfl, hx, hbx⟩
        have HX := Lib.hid hx
        have HBX := Lib.hid hbx
        have HB1 := Lib.hid (HB.out.below hbx)
        clear hx hbx
        go_wp2_with fail
        refine (without_any ⟨b2, o2, none⟩ bc B (-v) _ HB1.out (by omega)).mono ?_
        rintro e w2 ⟨ya, yc, rfl, hy, hby⟩
        have HY := Lib.hid hy
        have HX2 := Lib.hid (HX.out.below hby)
        have HB2 := Lib.hid (HBX.out.trans (hby.mono HBX.out.size))
        clear hy hby
        have hrow := two_row HX2.out HY.out 27 (lits_without v HLA.out) (lits_without (-v) HLB.out)
        have HROW := Lib.hid hrow
        have HFL : Hid ([withoutL A v, withoutL B (-v)].flatten = bothL A B v) := Lib.hid (by simp [bothL])
        have l1 : (withoutL A v).length ≤ A.length := List.length_filter_le _ _
        have l2 : (withoutL B (-v)).length ≤ B.length := List.length_filter_le _ _
        have l3 : (bothL A B v).length = (withoutL A v).length + (withoutL B (-v)).length := List.length_append
        have L3 : Hid ((bothL A B v).length ≤ 1000000) := Lib.hid (by omega)
        clear hrow l1 l2 l3
        go_wp2_with fail
        have hcc := concat_any _ 2 [withoutL A v, withoutL B (-v)] _ HROW.out (by simp) (by rw [HFL.out]; exact L3.out)
        rw [HFL.out] at hcc
        refine hcc.mono ?_
        clear hcc
        rintro e w3 ⟨za, zc, rfl, hz, hbz⟩
        have HZ := Lib.hid hz
        have HB3 : Hid (Below w.heap.size w w3) := Lib.hid ((HB2.out.alloc HB2.out.size _).trans (hbz.mono (HB2.out.alloc HB2.out.size _).size))
        clear hz hbz
        go_wp2_with fail
        refine (norm_any za zc (bothL A B v) _ HZ.out L3.out (fun x hx => (lits_both v HLA.out HLB.out x hx).2)).mono ?_
        rintro e w4 ⟨na, nc, rfl, hn, hbn⟩
        have HN := Lib.hid hn
        have HB4 := Lib.hid (HB3.out.trans (hbn.mono HB3.out.size))
        clear hn hbn
        go_wp2_with fail
        refine (taut_any na nc (normL (bothL A B v)) _ HN.out (lits_norm (lits_both v HLA.out HLB.out)) u3 (Lib.hid (by rw [tautB_norm]; exact HU3.out))).mono ?_
        rintro e w5 ⟨rfl, hb5⟩
        have HN5 := Lib.hid (HN.out.below hb5)
        have HB5 := Lib.hid (HB4.out.trans (hb5.mono HB4.out.size))
        clear hb5
        cases u3 with
        | true =>
          go_wp2_with fail
          go_ret2
          exact .inl ⟨HR.out, rfl, HB5.out⟩
        | false =>
          go_wp2_with fail
          go_ret2
          exact .inr ⟨HR.out, na, nc, rfl, HN5.out, HB5.out⟩
end Go.Proofs.Ytiimkhnngpfnbaa
/- Norm, without, Concat: what they hand back lies in memory of its own. Printed by mkfxp.py out of CnQ, CnS, CnT. -/
namespace Go.Proofs.Ytiimkhnngpfnbaa
open Go.RowKit
set_option linter.unusedVariables false
def SliceFr (w0 : World) (l : List Int) (e : Ending) (w' : World) : Prop := ∃ a cap, e = .returned (.slice a l.length cap) ∧ ValRow w' (.slice a l.length cap) (intVals l) ∧ Below w0.heap.size w0 w' ∧ ∀ ad, a = some ad → w0.heap.size ≤ ad.block
theorem norm_nilF (cap : Nat) (w : World) : Calls Try.prog 33 #[.slice none 0 cap] w (SliceFr w []) := by
  go_enter Try.func33, Try.ntmps33
  go_wp2_with fail
  refine (Try.slices_Clone_int_nil 0 cap _).mono ?_
  rintro e w1 ⟨rfl, rfl⟩
  go_wp2_with fail
  refine (AnyF.slices_SortFunc_none { Try.sortL with } none 0 _ _).mono ?_
  rintro e w1 ⟨rfl, rfl⟩
  go_wp2_with fail
  refine (Try.slices_Compact_int_empty none 0 _).mono ?_
  rintro e w1 ⟨rfl, rfl⟩
  go_wp2_with fail
  refine (clip_nil _).mono ?_
  rintro e w1 ⟨rfl, rfl⟩
  go_wp2_with fail
  go_ret
  exact ⟨none, 0, rfl, .inl ⟨_, _, rfl, rfl⟩, Below.refl _ _, fun ad h => (by cases h)⟩
theorem norm_someF (ad : Addr) (cap : Nat) (c : List Int) (w : World) (h : ValRow w (.slice (some ad) c.length cap) (intVals c)) (hlen : c.length ≤ 1000000) (hl : ∀ x ∈ c, -1000000 ≤ x ∧ x ≤ 1000000) :
    Calls Try.prog 33 #[.slice (some ad) c.length cap] w (SliceFr w (normL c)) := by
  have H := Lib.hid h
  have HL := Lib.hid hl
  clear h hl
  go_enter Try.func33, Try.ntmps33
  go_wp2_with fail
  refine (clone_some ad cap c _ H.out hlen).mono ?_
  rintro e w1 ⟨g, cp, rfl, ho, hb⟩
  have HO := Lib.hid ho
  have HB := Lib.hid hb
  clear ho hb
  go_wp2_with fail
  refine (sort_own w.heap.size g cp c _ HO.out HL.out hlen w HB.out).mono ?_
  rintro e w2 ⟨rfl, ho, hb⟩
  have HO2 := Lib.hid ho
  have HB2 := Lib.hid hb
  have e1 : (sortI c).length = c.length := sortI_length c
  clear ho hb
  go_wp2_with fail
  have hc := compact_own w.heap.size g cp (sortI c) _ HO2.out w HB2.out
  rw [e1] at hc
  refine hc.mono ?_
  clear hc
  rintro e w3 ⟨rfl, ho, hb⟩
  have HO3 := Lib.hid ho
  have HB3 := Lib.hid hb
  clear ho hb
  go_wp2_with fail
  refine (clip_any g _ cp _ HO3.out.hcap HO3.out.mx).mono ?_
  rintro e w4 ⟨rfl, rfl⟩
  go_wp2_with fail
  go_ret
  exact ⟨_, _, rfl, HO3.out.clipped, HB3.out, fun ad h => (by injection h with h; rw [← h]; exact HO3.out.bg)⟩
theorem norm_anyF (a : Option Addr) (cap : Nat) (c : List Int) (w : World) (h : ValRow w (.slice a c.length cap) (intVals c)) (hlen : c.length ≤ 1000000) (hl : ∀ x ∈ c, -1000000 ≤ x ∧ x ≤ 1000000) :
    Calls Try.prog 33 #[.slice a c.length cap] w (SliceFr w (normL c)) := by
  cases a with
  | none =>
    have hc : c = [] := by
      rcases h with ⟨_, _, _, h2⟩ | ⟨b, off, cap', h1, _⟩
      · simpa [intVals] using h2
      · simp at h1
    subst hc
    have : normL [] = [] := List.eq_nil_of_length_eq_zero (Nat.le_zero.1 (normL_len []))
    rw [this]
    exact norm_nilF cap w
  | some ad => exact norm_someF ad cap c w h hlen hl
theorem without_anyF (ad : Addr) (cap : Nat) (c : List Int) (v : Int) (w : World) (h : ValRow w (.slice (some ad) c.length cap) (intVals c)) (hl : c.length ≤ 1000000) :
    Calls Try.prog 46 #[.slice (some ad) c.length cap, .int .i64 v] w (SliceFr w (withoutL c v)) := by
  have hmf : ∀ (fn : Fn) (first cap : Array Value) (w : World), (Instr.makeFunc fn first cap).run Try.prog w = .ok (.func fn first cap) w := fun _ _ _ _ => rfl
  have hb0 : Below w.heap.size w (w.alloc (.cells #[.int .i64 v] 3)) := (Below.refl _ _).alloc (Nat.le_refl _) _
  have hv0 := varAt_new w #[.int .i64 v] 3 _ rfl
  have H := Lib.hid (h.below hb0)
  have HB0 := Lib.hid hb0
  have HV0 := Lib.hid hv0
  have hsz : (w.alloc (.cells #[.int .i64 v] 3)).heap.size = w.heap.size + 1 := by simp
  have HSZ := Lib.hid hsz
  clear h hb0 hv0 hsz
  go_enter Try.func46, Try.ntmps46
  go_wp2_with fail
  refine (clone_some ad cap c _ H.out hl).mono ?_
  rintro e w1 ⟨g, cp, rfl, ho, hb⟩
  have HO := Lib.hid ho
  have HB := Lib.hid hb
  have HV1 := Lib.hid (HV0.out.after hb)
  clear ho hb
  go_wp2_with fail
  refine (delete_own _ g cp w.heap.size c v _ HO.out (HV1.out.get 0 rfl) (by have := HO.out.bg; rw [HSZ.out] at this; omega) _ HB.out).mono ?_
  rintro e w2 ⟨rfl, ho, hb⟩
  have HO2 := Lib.hid ho
  have HB2 := Lib.hid (HB0.out.trans (hb.mono HB0.out.size))
  clear ho hb
  go_wp2_with fail
  go_ret
  exact ⟨_, _, rfl, HO2.out.row, HB2.out, fun ad h => (by injection h with h; rw [← h]; have := HO2.out.bg; rw [HSZ.out] at this; show w.heap.size ≤ g; omega)⟩
set_option maxRecDepth 100000 in
set_option maxHeartbeats 1600000 in
theorem concat_anyF (a : Option Addr) (cap : Nat) (LL : List (List Int)) (w : World) (h : RowOf 1 IntsC w (.slice a LL.length cap) LL) (hl : LL.length ≤ 1000000) (hsum : LL.flatten.length ≤ 1000000) :
    Calls Try.prog 45 #[.slice a LL.length cap] w (SliceFr w LL.flatten) := by
  have H := Lib.hid h
  clear h
  obtain ⟨i0, hi0, hz0, hz1, hz2⟩ := info_parts' infoI
  have HI0 := Lib.hid hi0
  have HZ0 := Lib.hid hz0
  have HZ1 := Lib.hid hz1
  have HZ2 := Lib.hid hz2
  clear hi0 hz0 hz1 hz2
  obtain ⟨N, hN⟩ : ∃ N, LL.flatten.length = N := ⟨_, rfl⟩
  rw [hN] at hsum
  have HFL : Hid (∀ k, flatN LL k ≤ N) := Lib.hid (fun k => by rw [← hN]; exact flatN_le LL k)
  have HN := Lib.hid hN
  clear hN
  go_enter Try.func45, Try.ntmps45
  go_wp2_with fail
  go_loop [3, 11] (fun s i => ∃ k : Nat, i = .int .i64 k ∧ k ≤ LL.length ∧ s = .int .i64 (flatN LL k : Nat)) (fun _ i => LL.length - (intOf i).toNat)
  case atStart => exact ⟨0, rfl, Nat.zero_le _, rfl⟩
  case round =>
    obtain ⟨k, rfl, hk, rfl⟩ := hrel
    have k0 : (0 : Int) ≤ (k : Int) := by omega
    by_cases hlt : k < LL.length
    · have k1 : (k : Int) < (LL.length : Int) := by omega
      have hdk : decide (k < LL.length) = true := decide_eq_true hlt
      obtain ⟨b, off, va, vc, rfl, _, hc, hrw, _⟩ := ints_row H.out k hlt
      have hsm := flatN_succ LL k hlt
      have h2 := HFL.out (k + 1)
      have h1 := HFL.out k
      clear hrw
      obtain ⟨s0, hs0⟩ : ∃ s, flatN LL k = s := ⟨_, rfl⟩
      obtain ⟨s1, hs1⟩ : ∃ s, flatN LL (k + 1) = s := ⟨_, rfl⟩
      obtain ⟨q, hq⟩ : ∃ s, (LL.getD k []).length = s := ⟨_, rfl⟩
      rw [hs0, hs1, hq] at hsm
      rw [hs0] at h1 ⊢
      rw [hs1] at h2
      rw [hq] at hc
      have HS1 := Lib.hid hs1
      clear hs0 hs1 hq
      have hd : decide ((s0 : Int) + (q : Int) < 0) = false := decide_eq_false (by omega)
      go_wp2_with fail
      go_round
      case rel => exact ⟨k + 1, by go_num, by omega, by rw [HS1.out, hsm]; go_num⟩
      case measure => simp [intOf]; omega
    · have hdk : decide (k < LL.length) = false := decide_eq_false hlt
      have hke : flatN LL k = N := by unfold flatN; rw [List.take_of_length_le (by omega)]; exact HN.out
      rw [hke]
      have HLT := Lib.hid hlt
      clear hlt hke
      go_wp2_with fail
      refine (grow_nil N _ (by omega)).mono ?_
      rintro e w1 ⟨ga, gc, rfl, hg⟩
      have HG := Lib.hid hg
      have HR := Lib.hid (H.out.below intsC_lasts hg.be)
      clear hg
      go_wp2_with fail
      go_loopw [6, 27] (fun s i wr => ∃ k : Nat, i = .int .i64 k ∧ k ≤ LL.length ∧ OwnV w.heap.size 3 w wr s (intVals (LL.take k).flatten)) (fun _ i _ => LL.length - (intOf i).toNat)
      case atStart => exact ⟨0, rfl, Nat.zero_le _, HG.out⟩
      case round =>
        obtain ⟨q, rfl, hq, hS⟩ := hrel
        have HS := Lib.hid hS
        clear hS
        have q0 : (0 : Int) ≤ (q : Int) := by omega
        by_cases hqt : q < LL.length
        · have q1 : (q : Int) < (LL.length : Int) := by omega
          have hdq : decide (q < LL.length) = true := decide_eq_true hqt
          obtain ⟨b, off, va, vc, rfl, _, hc, hrw, _⟩ := ints_row (H.out.below intsC_lasts HS.out.be) q hqt
          have HRW := Lib.hid hrw
          have HFT := Lib.hid (flat_take LL q hqt)
          have h2 := HFL.out (q + 1)
          have h1 := HFL.out q
          have hsm := flatN_succ LL q hqt
          have hb2 := HS.out.bsz
          obtain ⟨sa, sc, rfl⟩ := HS.out.row.shape
          clear hrw
          obtain ⟨C, hC⟩ : ∃ C, LL.getD q [] = C := ⟨_, rfl⟩
          rw [hC] at hc HRW HFT hsm
          clear hC
          go_wp2_with (at_builtin; refine wpList_app _ rfl _ _ 27 rfl w.heap.size 3 i0 (.int .i64 0) 8 Try.underlying27 HI0.out HZ0.out HZ1.out HZ2.out rfl _ _ _ rfl HS.out.own _ (intVals C) rfl HRW.out (intVals_one _) (by rw [intVals_length, intVals_length]; show flatN LL q + _ ≤ _; unfold maxLen; omega) (by rw [intVals_length, intVals_length]; show (flatN LL q + _) * _ ≤ _; omega) hb2 ?_)
          intro v2 w2 ha2
          have HS2 : Hid (OwnV w.heap.size 3 w w2 v2 (intVals (LL.take (q + 1)).flatten)) := Lib.hid (by
            rw [HFT.out, intVals_app]
            exact HS.out.app (Below.refl _ _) ha2)
          obtain ⟨a2, n2, c2, rfl⟩ := ha2.shape
          clear ha2
          go_wp2_with fail
          go_roundw
          case rel => exact ⟨q + 1, by go_num, by omega, HS2.out⟩
          case measure => simp [intOf]; omega
        · have hdq : decide (q < LL.length) = false := decide_eq_false hqt
          have HV : Hid (OwnV w.heap.size 3 w wr _ (intVals LL.flatten)) := Lib.hid (by have := HS.out; rwa [List.take_of_length_le (by omega)] at this)
          obtain ⟨sa, sc, rfl⟩ := HV.out.row.shape
          have HQT := Lib.hid hqt
          clear hqt HS
          rw [intVals_length] at HV
          rw [intVals_length]
          go_wp2_with fail
          go_ret
          exact ⟨_, _, rfl, HV.out.row, HV.out.be, fun ad h => (by
            subst h
            rcases HV.out.own.2 with ⟨e1, _⟩ | ⟨g, cap, cur, e1, hg, _⟩
            · cases e1
            · simp only [Value.slice.injEq, Option.some.injEq] at e1
              rw [e1.1]; exact hg)⟩
set_option maxRecDepth 100000 in
set_option maxHeartbeats 1600000 in
theorem rnorm_anyF (a : Option Addr) (cap : Nat) (c : List Int) (w : World) (h : ValRow w (.slice a c.length cap) (intVals c)) (hlen : c.length ≤ 1000000) (hl : ∀ x ∈ c, -1000000 ≤ x ∧ x ≤ 1000000) :
    Calls Try.prog 31 #[.slice a c.length cap] w (SliceFr w (normL c)) := by
  have H := Lib.hid h
  have HL := Lib.hid hl
  clear h hl
  obtain ⟨i0, hi0, hz0, hz1, hz2⟩ := info_parts' infoI
  have HI0 := Lib.hid hi0
  have HZ0 := Lib.hid hz0
  have HZ1 := Lib.hid hz1
  have HZ2 := Lib.hid hz2
  clear hi0 hz0 hz1 hz2
  go_enter Try.func31, Try.ntmps31
  go_wp2_with fail
  go_loopw [3, 4] (fun o i wr => ∃ (k : Nat), i = .int .i64 k ∧ k ≤ c.length ∧ OwnV w.heap.size 3 w wr o (intVals (normR (c.take k)))) (fun _ i _ => c.length - (intOf i).toNat)
  case atStart => exact ⟨0, rfl, Nat.zero_le _, OwnV.none _ _ _ (Nat.le_refl _)⟩
  case round =>
    rename_i o i
    obtain ⟨k, rfl, hk, hN⟩ := hrel
    have HN := Lib.hid hN
    clear hN
    obtain ⟨wo, hwo⟩ : ∃ wo, wo = wr := ⟨_, rfl⟩
    subst hwo
    have k0 : (0 : Int) ≤ (k : Int) := by omega
    by_cases hlt : k < c.length
    · have k1 : (k : Int) < (c.length : Int) := by omega
      have hdk : decide (k < c.length) = true := decide_eq_true hlt
      obtain ⟨b, off, rfl, hbw, hc⟩ := int_at (H.out.below HN.out.be) k hlt
      have e : c.getD k 0 = c[k] := by simp [hlt]
      have HTK := Lib.hid (List.take_succ_eq_append_getElem hlt)
      have HMEM := List.getElem_mem hlt
      rw [← e] at HTK HMEM
      have HM := Lib.hid HMEM
      clear e HMEM
      obtain ⟨x, hx⟩ : ∃ x, c.getD k 0 = x := ⟨_, rfl⟩
      rw [hx] at hc HTK HM
      clear hx
      have HX := Lib.hid (HL.out x HM.out)
      have HNX : Hid (normR (c.take (k + 1)) = stepR (normR (c.take k)) x) := Lib.hid (by rw [HTK.out, normL_snoc])
      have hol : (normR (c.take k)).length ≤ 1000000 := Nat.le_trans (normR_len _) (by rw [List.length_take]; omega)
      have HOB : Hid (∀ y ∈ normR (c.take k), -1000000 ≤ y ∧ y ≤ 1000000) := Lib.hid (fun y hy => HL.out y (List.mem_of_mem_take ((normL_mem _ y).1 (by rw [← normR_eq]; exact hy))))
      obtain ⟨O, hO⟩ : ∃ O, normR (c.take k) = O := ⟨_, rfl⟩
      rw [hO] at HN hol HNX HOB
      clear hO
      have hrow := HN.out.row
      obtain ⟨oa, oc, rfl⟩ := hrow.shape
      rw [intVals_length] at hrow HN
      rw [intVals_length]
      have HROW := Lib.hid hrow
      obtain ⟨u, hu⟩ : ∃ u, hasB O x = u := ⟨_, rfl⟩
      have HU := Lib.hid hu
      clear hrow hu
      go_wp2_with fail
      refine (has_any oa oc O x _ HROW.out u HU).mono ?_
      rintro e w1 ⟨rfl, rfl⟩
      cases u with
      | true =>
        have HNXT : Hid (normR (c.take (k + 1)) = O) := Lib.hid (by rw [HNX.out]; unfold stepR; rw [if_pos HU.out])
        go_wp2_with fail
        go_roundw
        case rel => exact ⟨k + 1, by go_num, by omega, by rw [HNXT.out]; exact HN.out⟩
        case measure => simp [intOf]; omega
      | false =>
        have HNXT : Hid (normR (c.take (k + 1)) = insR x O) := Lib.hid (by rw [HNX.out]; unfold stepR; rw [HU.out]; rfl)
        have HPL := Lib.hid (placeR_le x O O.length)
        obtain ⟨p, hp⟩ : ∃ p, placeR x O O.length = p := ⟨_, rfl⟩
        have HPP := Lib.hid hp
        rw [hp] at HPL
        clear hp
        go_upto_block 2 with (fail)
        go_cut [5] (fun at_ wx => at_ = .int .i64 p ∧ ∃ m, wx = wo.drewN m)
        case first =>
          go_wp2_with fail
          go_loopw [5] (fun at_ wr => ∃ (j m : Nat), at_ = .int .i64 j ∧ j ≤ O.length ∧ Hid (p = placeR x O j) ∧ wr = wo.drewN m) (fun at_ _ => (intOf at_).toNat)
          case atStart => exact ⟨O.length, 0, rfl, Nat.le_refl _, Lib.hid HPP.out.symm, rfl⟩
          case round =>
            obtain ⟨j, m, rfl, hj, HP, rfl⟩ := hrel
            cases j with
            | zero =>
              have d1 : decide ((0 : Int) < ((0 : Nat) : Int)) = false := rfl
              go_wp2_with fail
              go_quiet (fail)
              go_wp2_with fail
              go_meet
              exact ⟨by rw [HP.out]; rfl, m + nq, by rw [World.drewN_drewN]⟩
            | succ j =>
              obtain ⟨b2, o2, rfl, _, hc2⟩ := valRow_cells HROW.out j (by rw [intVals_length]; omega)
              have c2 := hc2 j (by rw [intVals_length]; omega)
              rw [intVals_get _ _ (by omega)] at c2
              clear hc2
              have HY0 : Hid (O.getD j 0 ∈ O) := Lib.hid (by rw [show O.getD j 0 = O[j]'(by omega) from by simp [show j < O.length by omega]]; exact List.getElem_mem _)
              have HP2 : Hid (placeR x O (j + 1) = if befI x (O.getD j 0) then placeR x O j else j + 1) := Lib.hid rfl
              obtain ⟨y, hy⟩ : ∃ y, O.getD j 0 = y := ⟨_, rfl⟩
              rw [hy] at c2 HY0 HP2
              clear hy
              have HYB := Lib.hid (HOB.out y HY0.out)
              have d1 : (wo.drewN m).cell? ⟨b, off + k, none⟩ = some (.int .i64 x) := hc
              have d2 : (wo.drewN m).cell? ⟨b2, o2 + j, none⟩ = some (.int .i64 y) := c2
              obtain ⟨wm, HW⟩ : ∃ wm, Hid (wo.drewN m = wm) := ⟨_, rfl⟩
              rw [HW.out] at d1 d2 ⊢
              have j0 : (0 : Int) ≤ (j : Int) := by omega
              have j1 : (j : Int) < (O.length : Int) := by omega
              obtain ⟨u, hu⟩ : ∃ u, decide (befI x y) = u := ⟨_, rfl⟩
              have HUU := Lib.hid hu
              have HBF := fun W => Lib.hid (rbefore_any x y W HX.out HYB.out u HUU)
              clear c2 hu
              cases u with
              | true =>
                have HPN : Hid (p = placeR x O j) := Lib.hid (by rw [HP.out, HP2.out, if_pos (of_decide_eq_true HUU.out)])
                go_wp2_with fail
                go_quiet ((go_at_call 38; exact Calls.quiet_of_same ((HBF _).out)))
                go_wp2_with fail
                go_roundw
                case rel => exact ⟨j, m + nq, by go_num, by omega, HPN, by rw [← HW.out, World.drewN_drewN]⟩
                case measure => simp [intOf]
              | false =>
                have HPN : Hid (p = j + 1) := Lib.hid (by rw [HP.out, HP2.out, if_neg (of_decide_eq_false HUU.out)])
                go_wp2_with fail
                go_quiet ((go_at_call 38; exact Calls.quiet_of_same ((HBF _).out)))
                go_wp2_with fail
                go_meet
                exact ⟨by rw [HPN.out], m + nq, by rw [← HW.out, World.drewN_drewN]⟩
        case rest =>
          obtain ⟨rfl, m, rfl⟩ := hcut
          have hbe : Below w.heap.size w (wo.drewN m) := below_drewN' HN.out.be m
          have hcq : (wo.drewN m).cell? ⟨b, off + k, none⟩ = some (.int .i64 x) := hc
          have hrq : ValRow (wo.drewN m) (.slice oa O.length oc) (intVals O) := HROW.out
          clear hc
          obtain ⟨wq, hwq⟩ : ∃ wq, wo.drewN m = wq := ⟨_, rfl⟩
          rw [hwq] at hbe hcq hrq ⊢
          have HBE := Lib.hid hbe
          have HCQ := Lib.hid hcq
          have HRQ := Lib.hid hrq
          have hple := HPL.out
          have hcapq := cap_of_row hrq
          rw [intVals_length] at hcapq
          have hs1 := fun W => run_cut_h oa O.length oc p (by omega) W
          have hs2 := fun W => run_cut_l oa O.length oc p hple W
          have HV1 : Hid (ValRow wq (sliced oa 0 p oc 1) (intVals (O.take p))) := Lib.hid (by
            have := valRow_sliced hrq 0 p (Nat.zero_le _) (by rw [intVals_length]; exact hple)
            simpa [intVals, List.map_take] using this)
          have HV2 : Hid (ValRow wq (sliced oa p O.length oc 1) (intVals (O.drop p))) := Lib.hid (by
            have := valRow_sliced hrq p O.length hple (Nat.le_of_eq (intVals_length _).symm)
            rw [List.take_of_length_le (Nat.le_of_eq (intVals_length _))] at this
            simpa [intVals, List.map_drop] using this)
          obtain ⟨s1, hs1'⟩ : ∃ v, sliced oa 0 p oc 1 = v := ⟨_, rfl⟩
          obtain ⟨s2, hs2'⟩ : ∃ v, sliced oa p O.length oc 1 = v := ⟨_, rfl⟩
          rw [hs1'] at hs1 HV1
          rw [hs2'] at hs2 HV2
          have hbsz : w.heap.size ≤ wq.heap.size := hbe.size
          clear hwq hbe hcq hrq hs1' hs2'
          have HOL := OwnV.lit wq #[] 3 0 rfl (Nat.zero_le _)
          go_wp2_with (at_builtin; refine wpList_app _ rfl _ _ 27 rfl wq.heap.size 3 i0 (.int .i64 0) 8 Try.underlying27 HI0.out HZ0.out HZ1.out HZ2.out rfl _ 0 [] rfl HOL.own s1 (intVals (O.take p)) rfl (HV1.out.below ((Below.refl _ _).alloc (Nat.le_refl _) _)) (intVals_one _) (by rw [intVals_length]; unfold maxLen; simp; omega) (by rw [intVals_length]; simp; omega) (by simp) ?_)
          intro v1 w1 ha1
          have HA1 : Hid (OwnV wq.heap.size 3 wq w1 v1 (intVals (O.take p))) := Lib.hid (HOL.app (Below.refl _ _) ha1)
          obtain ⟨a1, n1, c1, rfl⟩ := ha1.shape
          have hc1 := (HA1.out.be.cell (p := ⟨b, off + k, none⟩) (by have := lt_of_cell HCQ.out; omega)).trans HCQ.out
          have hb1 := HA1.out.bsz
          clear ha1
          have hl1 : (O.take p).length ≤ 1000000 := by rw [List.length_take]; omega
          go_wp2_with (at_builtin; refine wpList_app _ rfl _ _ 27 rfl wq.heap.size 3 i0 (.int .i64 0) 8 Try.underlying27 HI0.out HZ0.out HZ1.out HZ2.out rfl (.slice a1 n1 c1) _ _ rfl (HA1.out.own.alloc _) (.slice (some ⟨w1.heap.size, 0, none⟩) 1 1) (intVals [x]) rfl (fresh_row _ _ _ _ rfl) (intVals_one _) (by rw [intVals_length, intVals_length]; unfold maxLen; simp; omega) (by rw [intVals_length, intVals_length]; simp; omega) (by simp; omega) ?_)
          intro v2 w2 ha2
          have HA2 : Hid (OwnV wq.heap.size 3 wq w2 v2 (intVals (O.take p ++ [x]))) := Lib.hid (by rw [intVals_app]; exact HA1.out.app ((Below.refl _ _).alloc (Nat.le_refl _) _) ha2)
          obtain ⟨a2, n2, c2, rfl⟩ := ha2.shape
          have hb2 := HA2.out.bsz
          clear ha2 hc1
          have hl2 : (O.drop p).length ≤ 1000000 := by rw [List.length_drop]; omega
          go_wp2_with (at_builtin; refine wpList_app _ rfl _ _ 27 rfl wq.heap.size 3 i0 (.int .i64 0) 8 Try.underlying27 HI0.out HZ0.out HZ1.out HZ2.out rfl (.slice a2 n2 c2) _ _ rfl HA2.out.own s2 (intVals (O.drop p)) rfl (HV2.out.below HA2.out.be) (intVals_one _) (by rw [intVals_length, intVals_length, List.length_append]; unfold maxLen; simp; omega) (by rw [intVals_length, intVals_length, List.length_append]; simp; omega) hb2 ?_)
          intro v3 w3 ha3
          have HA3 : Hid (OwnV wq.heap.size 3 wq w3 v3 (intVals (insR x O))) := Lib.hid (by
            have := HA2.out.app (Below.refl _ _) ha3
            rw [← intVals_app] at this
            unfold insR
            rw [HPP.out]
            simpa using this)
          obtain ⟨a3, n3, c3, rfl⟩ := ha3.shape
          clear ha3
          go_wp2_with fail
          go_roundw
          case rel => exact ⟨k + 1, by go_num, by omega, by rw [HNXT.out]; exact HA3.out.lower hbsz HBE.out⟩
          case measure => simp [intOf]; omega
    · have hdk : decide (k < c.length) = false := decide_eq_false hlt
      have HT : Hid (normR (c.take k) = normL c) := Lib.hid (by rw [normR_eq, List.take_of_length_le (by omega)])
      have hrow := HN.out.row
      rw [HT.out] at hrow
      obtain ⟨oa, oc, rfl⟩ := hrow.shape
      rw [intVals_length] at hrow
      rw [intVals_length]
      have HROW := Lib.hid hrow
      have HNO := Lib.hid HN.out.own
      have HLT := Lib.hid hlt
      clear hlt hrow
      go_wp2_with fail
      go_ret
      exact ⟨_, _, rfl, HROW.out, HN.out.be, fun ad h => (by
        subst h
        rcases HNO.out.2 with ⟨e1, _⟩ | ⟨g, cap, cur, e1, hg, _⟩
        · cases e1
        · simp only [Value.slice.injEq, Option.some.injEq] at e1
          rw [e1.1]; exact hg)⟩
end Go.Proofs.Ytiimkhnngpfnbaa
/- The reference's Resolve. -/
namespace Go.Proofs.Ytiimkhnngpfnbaa
open Go.RowKit
set_option linter.unusedVariables false
theorem withoutL_snoc (c : List Int) (x v : Int) : withoutL (c ++ [x]) v = withoutL c v ++ (if x = v then [] else [x]) := by
  unfold withoutL
  rw [List.filter_append]
  by_cases h : x = v <;> simp [h]
def RResPost (w : World) (A B : List Int) (v : Int) (e : Ending) (w' : World) : Prop :=
  (resB A B v = false ∧ e = .returned (.tuple #[.slice none 0 0, .bool false]) ∧ Below w.heap.size w w') ∨
  (resB A B v = true ∧ ∃ a cap, e = .returned (.tuple #[.slice a (resL A B v).length cap, .bool true]) ∧ ValRow w' (.slice a (resL A B v).length cap) (intVals (resL A B v)) ∧ Below w.heap.size w w')
set_option maxRecDepth 100000 in
set_option maxHeartbeats 1600000 in
theorem rresolve_any (aa : Option Addr) (ac : Nat) (A : List Int) (ba : Option Addr) (bc : Nat) (B : List Int) (v : Int) (w : World) (ha : ValRow w (.slice aa A.length ac) (intVals A)) (hb : ValRow w (.slice ba B.length bc) (intVals B))
    (hA : Lits A) (hB : Lits B) (hla : A.length ≤ 100000) (hlb : B.length ≤ 100000) (hv : -9223372036854775808 ≤ v ∧ v ≤ 9223372036854775807) :
    Calls Try.prog 30 #[.slice aa A.length ac, .slice ba B.length bc, .int .i64 v] w (RResPost w A B v) := by
  have HA := Lib.hid ha
  have HB := Lib.hid hb
  have HLA := Lib.hid hA
  have HLB := Lib.hid hB
  have HD := Lib.hid (show resB A B v = (decide (1 ≤ v) && hasB A v && hasB B (-v) && !tautB (bothL A B v)) from rfl)
  clear ha hb hA hB
  by_cases h1 : v < 1
  · have d1 : decide (v < 1) = true := decide_eq_true h1
    have HR : Hid (resB A B v = false) := Lib.hid (by rw [HD.out, decide_eq_false (show ¬ 1 ≤ v by omega)]; rfl)
    go_enter Try.func30, Try.ntmps30
    go_wp2_with fail
    go_ret2
    exact .inl ⟨HR.out, rfl, Below.refl _ _⟩
  · have d1 : decide (v < 1) = false := decide_eq_false h1
    have v1 : decide (1 ≤ v) = true := decide_eq_true (by omega)
    have HV1 := Lib.hid v1
    clear v1
    obtain ⟨u1, hu1⟩ : ∃ u, hasB A v = u := ⟨_, rfl⟩
    have HU1 := Lib.hid hu1
    clear hu1
    cases u1 with
    | false =>
      have HR : Hid (resB A B v = false) := Lib.hid (by rw [HD.out, HU1.out, HV1.out]; rfl)
      go_enter Try.func30, Try.ntmps30
      go_wp2_with fail
      refine (has_any aa ac A v _ HA.out false HU1).mono ?_
      rintro e w1 ⟨rfl, rfl⟩
      go_wp2_with fail
      go_ret2
      exact .inl ⟨HR.out, rfl, Below.refl _ _⟩
    | true =>
      obtain ⟨u2, hu2⟩ : ∃ u, hasB B (-v) = u := ⟨_, rfl⟩
      have HU2 := Lib.hid hu2
      clear hu2
      cases u2 with
      | false =>
        have HR : Hid (resB A B v = false) := Lib.hid (by rw [HD.out, HU1.out, HV1.out, HU2.out]; rfl)
        go_enter Try.func30, Try.ntmps30
        go_wp2_with fail
        refine (has_any aa ac A v _ HA.out true HU1).mono ?_
        rintro e w1 ⟨rfl, rfl⟩
        go_wp2_with fail
        refine (has_any ba bc B (-v) _ HB.out false HU2).mono ?_
        rintro e w1 ⟨rfl, rfl⟩
        go_wp2_with fail
        go_ret2
        exact .inl ⟨HR.out, rfl, Below.refl _ _⟩
      | true =>
        obtain ⟨u3, hu3⟩ : ∃ u, tautB (bothL A B v) = u := ⟨_, rfl⟩
        have HU3 := Lib.hid hu3
        have HR : Hid (resB A B v = !u3) := Lib.hid (by rw [HD.out, HU1.out, HV1.out, HU2.out, hu3]; rfl)
        clear hu3
        obtain ⟨i0, hi0, hz0, hz1, hz2⟩ := info_parts' infoI
        have HI0 := Lib.hid hi0
        have HZ0 := Lib.hid hz0
        have HZ1 := Lib.hid hz1
        have HZ2 := Lib.hid hz2
        clear hi0 hz0 hz1 hz2
        have LW : Hid (∀ (c : List Int) (u : Int) (k : Nat), (withoutL (c.take k) u).length ≤ c.length) := Lib.hid (fun c u k => Nat.le_trans (List.length_filter_le _ _) (by rw [List.length_take]; omega))
        go_enter Try.func30, Try.ntmps30
        go_wp2_with fail
        refine (has_any _ ac A v _ HA.out true HU1).mono ?_
        rintro e w1 ⟨rfl, rfl⟩
        go_wp2_with fail
        refine (has_any _ bc B (-v) _ HB.out true HU2).mono ?_
        rintro e w1 ⟨rfl, rfl⟩
        go_wp2_with fail
        go_loopw [8, 9] (fun s i wr => ∃ k : Nat, i = .int .i64 k ∧ k ≤ A.length ∧ OwnV w.heap.size 3 w wr s (intVals (withoutL (A.take k) v))) (fun _ i _ => A.length - (intOf i).toNat)
        case atStart => exact ⟨0, rfl, Nat.zero_le _, OwnV.none _ _ _ (Nat.le_refl _)⟩
        case round =>
          obtain ⟨k, rfl, hk, hS⟩ := hrel
          have HS := Lib.hid hS
          clear hS
          have k0 : (0 : Int) ≤ (k : Int) := by omega
          obtain ⟨sa, sc, rfl⟩ := HS.out.row.shape
          by_cases hlt : k < A.length
          · have k1 : (k : Int) < (A.length : Int) := by omega
            have hdk : decide (k < A.length) = true := decide_eq_true hlt
            obtain ⟨b, off, rfl, _, hc⟩ := int_at (HA.out.below HS.out.be) k hlt
            have e : A.getD k 0 = A[k] := by simp [hlt]
            have HTK := Lib.hid (List.take_succ_eq_append_getElem hlt)
            rw [← e] at HTK
            clear e
            obtain ⟨x, hx⟩ : ∃ x, A.getD k 0 = x := ⟨_, rfl⟩
            rw [hx] at hc HTK
            clear hx
            have hln := LW.out A v k
            by_cases hxv : x = v
            · have e0 := inf hxv
              have HNX : Hid (withoutL (A.take (k + 1)) v = withoutL (A.take k) v) := Lib.hid (by rw [HTK.out, withoutL_snoc, if_pos hxv, List.append_nil])
              clear hxv
              go_wp2_with fail
              go_roundw
              case rel => exact ⟨k + 1, by go_num, by omega, by rw [HNX.out]; exact HS.out⟩
              case measure => simp [intOf]; omega
            · have e0 := ine hxv
              have HNX : Hid (withoutL (A.take (k + 1)) v = withoutL (A.take k) v ++ [x]) := Lib.hid (by rw [HTK.out, withoutL_snoc, if_neg hxv])
              have hbz := HS.out.bsz
              clear hxv
              go_wp2_with (at_builtin; refine wpList_app _ rfl _ _ 27 rfl w.heap.size 3 i0 (.int .i64 0) 8 Try.underlying27 HI0.out HZ0.out HZ1.out HZ2.out rfl _ _ _ rfl (HS.out.own.alloc _) (.slice (some ⟨wr.heap.size, 0, none⟩) 1 1) (intVals [x]) rfl (fresh_row _ _ _ _ rfl) (intVals_one _) (by rw [intVals_length, intVals_length]; unfold maxLen; simp; omega) (by rw [intVals_length, intVals_length]; simp; omega) (by simp; omega) ?_)
              intro v2 w2 ha2
              have HS2 : Hid (OwnV w.heap.size 3 w w2 v2 (intVals (withoutL (A.take (k + 1)) v))) := Lib.hid (by
                rw [HNX.out, intVals_app]
                exact HS.out.app ((Below.refl _ _).alloc (Nat.le_refl _) _) ha2)
              obtain ⟨a2, n2, c2, rfl⟩ := ha2.shape
              clear ha2
              go_wp2_with fail
              go_roundw
              case rel => exact ⟨k + 1, by go_num, by omega, HS2.out⟩
              case measure => simp [intOf]; omega
          · have hdk : decide (k < A.length) = false := decide_eq_false hlt
            have HSA : Hid (OwnV w.heap.size 3 w wr (.slice sa (intVals (withoutL (A.take k) v)).length sc) (intVals (withoutL A v ++ withoutL (B.take 0) (-v)))) := Lib.hid (by
              have := HS.out
              rw [show A.take k = A from List.take_of_length_le (by omega)] at this ⊢
              simpa [withoutL] using this)
            have HLT := Lib.hid hlt
            have hla2 : (withoutL A v).length ≤ A.length := List.length_filter_le _ _
            clear hlt HS
            obtain ⟨sl, hsl⟩ : ∃ n, (intVals (withoutL (A.take k) v)).length = n := ⟨_, rfl⟩
            rw [hsl] at HSA ⊢
            clear hsl
            go_wp2_with fail
            obtain ⟨wo, hwo⟩ : ∃ wo, wo = wr := ⟨_, rfl⟩
            subst hwo
            go_loopw [8, 10] (fun s i wr => ∃ q : Nat, i = .int .i64 q ∧ q ≤ B.length ∧ OwnV w.heap.size 3 w wr s (intVals (withoutL A v ++ withoutL (B.take q) (-v)))) (fun _ i _ => B.length - (intOf i).toNat)
            case atStart => exact ⟨0, rfl, Nat.zero_le _, HSA.out⟩
            case round =>
              obtain ⟨q, rfl, hq, hS⟩ := hrel
              have HS := Lib.hid hS
              clear hS
              have q0 : (0 : Int) ≤ (q : Int) := by omega
              obtain ⟨ta, tc, rfl⟩ := HS.out.row.shape
              by_cases hqt : q < B.length
              · have q1 : (q : Int) < (B.length : Int) := by omega
                have hdq : decide (q < B.length) = true := decide_eq_true hqt
                obtain ⟨b, off, rfl, _, hc⟩ := int_at (HB.out.below HS.out.be) q hqt
                have e : B.getD q 0 = B[q] := by simp [hqt]
                have HTK := Lib.hid (List.take_succ_eq_append_getElem hqt)
                rw [← e] at HTK
                clear e
                obtain ⟨x, hx⟩ : ∃ x, B.getD q 0 = x := ⟨_, rfl⟩
                rw [hx] at hc HTK
                clear hx
                have hln := LW.out B (-v) q
                by_cases hxv : x = -v
                · have e0 := inf hxv
                  have HNX : Hid (withoutL (B.take (q + 1)) (-v) = withoutL (B.take q) (-v)) := Lib.hid (by rw [HTK.out, withoutL_snoc, if_pos hxv, List.append_nil])
                  clear hxv
                  go_wp2_with fail
                  go_roundw
                  case rel => exact ⟨q + 1, by go_num, by omega, by rw [HNX.out]; exact HS.out⟩
                  case measure => simp [intOf]; omega
                · have e0 := ine hxv
                  have HNX : Hid (withoutL A v ++ withoutL (B.take (q + 1)) (-v) = (withoutL A v ++ withoutL (B.take q) (-v)) ++ [x]) := Lib.hid (by rw [HTK.out, withoutL_snoc, if_neg hxv, List.append_assoc])
                  have hbz := HS.out.bsz
                  clear hxv
                  go_wp2_with (at_builtin; refine wpList_app _ rfl _ _ 27 rfl w.heap.size 3 i0 (.int .i64 0) 8 Try.underlying27 HI0.out HZ0.out HZ1.out HZ2.out rfl _ _ _ rfl (HS.out.own.alloc _) (.slice (some ⟨wr.heap.size, 0, none⟩) 1 1) (intVals [x]) rfl (fresh_row _ _ _ _ rfl) (intVals_one _) (by rw [intVals_length, intVals_length, List.length_append]; unfold maxLen; simp; omega) (by rw [intVals_length, intVals_length, List.length_append]; simp; omega) (by simp; omega) ?_)
                  intro v2 w2 ha2
                  have HS2 : Hid (OwnV w.heap.size 3 w w2 v2 (intVals (withoutL A v ++ withoutL (B.take (q + 1)) (-v)))) := Lib.hid (by
                    rw [HNX.out, intVals_app]
                    exact HS.out.app ((Below.refl _ _).alloc (Nat.le_refl _) _) ha2)
                  obtain ⟨a2, n2, c2, rfl⟩ := ha2.shape
                  clear ha2
                  go_wp2_with fail
                  go_roundw
                  case rel => exact ⟨q + 1, by go_num, by omega, HS2.out⟩
                  case measure => simp [intOf]; omega
              · have hdq : decide (q < B.length) = false := decide_eq_false hqt
                have hlb2 : (withoutL B (-v)).length ≤ B.length := List.length_filter_le _ _
                have hrow := HS.out.row
                rw [show B.take q = B from List.take_of_length_le (by omega)] at hrow ⊢
                have HBE := Lib.hid HS.out.be
                have hL : withoutL A v ++ withoutL B (-v) = bothL A B v := rfl
                have hll : (bothL A B v).length ≤ 1000000 := by rw [← hL, List.length_append]; omega
                rw [hL, intVals_length] at hrow ⊢
                have HROW := Lib.hid hrow
                have HQT := Lib.hid hqt
                clear hqt HS hrow hL
                go_wp2_with fail
                refine (rtaut_any ta tc (bothL A B v) _ HROW.out (lits_both v HLA.out HLB.out) u3 HU3).mono ?_
                rintro e w5 ⟨rfl, rfl⟩
                cases u3 with
                | true =>
                  go_wp2_with fail
                  go_ret2
                  exact .inl ⟨HR.out, rfl, HBE.out⟩
                | false =>
                  go_wp2_with fail
                  refine (rnorm_any ta tc (bothL A B v) _ HROW.out hll (fun x hx => (lits_both v HLA.out HLB.out x hx).2)).mono ?_
                  rintro e w6 ⟨na, nc, rfl, hn, hbn⟩
                  have HN := Lib.hid hn
                  have HB4 := Lib.hid (HBE.out.trans (hbn.mono HBE.out.size))
                  clear hn hbn
                  go_wp2_with fail
                  go_ret2
                  exact .inr ⟨HR.out, na, nc, rfl, HN.out, HB4.out⟩
end Go.Proofs.Ytiimkhnngpfnbaa
/- The reference's models, and what follows in all of them. -/
namespace Go.Proofs.Ytiimkhnngpfnbaa
open Go.RowKit
set_option linter.unusedVariables false
end Go.Proofs.Ytiimkhnngpfnbaa
/- The reference's Spread, plain: it comes to what the program's does. -/
namespace Go.Proofs.Ytiimkhnngpfnbaa
open Go.RowKit
set_option linter.unusedVariables false
/-- what is true, and what variables are -/
structure Rep (n : Nat) (S V : List Int) : Prop where
  len : V.length = n + 1
  zero : V.getD 0 0 = 0
  small : ∀ v ∈ V, -1 ≤ v ∧ v ≤ 1
  lit : ∀ x ∈ S, x ≠ 0 ∧ -(n : Int) ≤ x ∧ x ≤ n
  iff : ∀ x : Int, x ≠ 0 → x.natAbs ≤ n → (x ∈ S ↔ ofV V x = 1)
theorem hasB_iff (c : List Int) (x : Int) : hasB c x = true ↔ x ∈ c := ⟨hasB_mem, fun h => List.any_eq_true.2 ⟨x, h, by simp⟩⟩
theorem Rep.val {n : Nat} {S V : List Int} (h : Rep n S V) (x : Int) : -1 ≤ ofV V x ∧ ofV V x ≤ 1 := by
  have hv : -1 ≤ V.getD x.natAbs 0 ∧ V.getD x.natAbs 0 ≤ 1 := by
    by_cases hk : x.natAbs < V.length
    · have e : V.getD x.natAbs 0 = V[x.natAbs] := by simp [hk]
      rw [e]; exact h.small _ (List.getElem_mem hk)
    · simp [List.getD, List.getElem?_eq_none (Nat.le_of_not_lt hk)]
  unfold ofV
  split <;> omega
theorem ofV_neg (V : List Int) (x : Int) (h0 : x ≠ 0) : ofV V (-x) = -ofV V x := by
  unfold ofV
  rw [Int.natAbs_neg]
  by_cases h : x < 0
  · rw [if_neg (by omega), if_pos h]; omega
  · rw [if_pos (by omega), if_neg h]
theorem Rep.pos {n : Nat} {S V : List Int} (h : Rep n S V) {x : Int} (h0 : x ≠ 0) (hx : x.natAbs ≤ n) : hasB S x = decide (ofV V x = 1) := by
  rw [Bool.eq_iff_iff, hasB_iff, decide_eq_true_eq]; exact h.iff x h0 hx
theorem Rep.neg {n : Nat} {S V : List Int} (h : Rep n S V) {x : Int} (h0 : x ≠ 0) (hx : x.natAbs ≤ n) : hasB S (-x) = decide (ofV V x = -1) := by
  rw [h.pos (by omega) (by rw [Int.natAbs_neg]; exact hx), ofV_neg V x h0]
  rw [Bool.eq_iff_iff, decide_eq_true_eq, decide_eq_true_eq]; omega
/-- what is looked through in both ways -/
def FitsC (R : Int × Bool × Nat) (u : Int × Bool) (o : Int) (c : List Int) : Prop :=
  if R.2.1 = true ∨ 2 ≤ R.2.2 then u = (0, true) else u = (R.1, R.1 != 0) ∧ ((R.2.2 = 0 ∧ R.1 = 0) ∨ (R.2.2 = 1 ∧ R.1 ≠ 0 ∧ (R.1 = o ∨ R.1 ∈ c)))
theorem FitsC.of {R : Int × Bool × Nat} {u : Int × Bool} {o o' : Int} {c c' : List Int} (h : FitsC R u o c) (hs : ∀ y, y ≠ 0 → (y = o ∨ y ∈ c) → (y = o' ∨ y ∈ c')) : FitsC R u o' c' := by
  unfold FitsC at h ⊢
  split
  · rename_i hh; rw [if_pos hh] at h; exact h
  · rename_i hh
    rw [if_neg hh] at h
    exact ⟨h.1, h.2.imp id (fun g => ⟨g.1, g.2.1, hs _ g.2.1 g.2.2⟩)⟩
theorem getD_set_self (V : List Int) (k : Nat) (u : Int) (h : k < V.length) : (V.set k u).getD k 0 = u := by simp [h]
theorem getD_set_other (V : List Int) (k j : Nat) (u : Int) (h : k ≠ j) : (V.set k u).getD j 0 = V.getD j 0 := by simp [List.getElem?_set_ne h]
theorem ofV_set_self (V : List Int) (x : Int) (h0 : x ≠ 0) (h : x.natAbs < V.length) : ofV (setV V x) x = 1 := by
  unfold ofV setV
  rw [getD_set_self V _ _ h]
  split <;> omega
theorem ofV_set_other (V : List Int) (x y : Int) (h : x.natAbs ≠ y.natAbs) : ofV (setV V x) y = ofV V y := by
  unfold ofV setV
  rw [getD_set_other V _ _ _ h]
theorem Rep.set {n : Nat} {S V : List Int} (h : Rep n S V) {x : Int} (h0 : x ≠ 0) (hx : x.natAbs ≤ n) (hv : 0 ≤ ofV V x) : Rep n (S ++ [x]) (setV V x) where
  len := by rw [setV_length]; exact h.len
  zero := by
    unfold setV
    rw [getD_set_other V _ _ _ (by omega)]; exact h.zero
  small := fun v hv => by
    rcases List.mem_or_eq_of_mem_set hv with hv | rfl
    · exact h.small v hv
    · split <;> omega
  lit := fun y hy => by
    rcases List.mem_append.1 hy with hy | hy
    · exact h.lit y hy
    · rw [List.mem_singleton] at hy; omega
  iff := fun y y0 yn => by
    rw [List.mem_append, List.mem_singleton]
    by_cases e : x.natAbs = y.natAbs
    · rcases (by omega : y = x ∨ y = -x) with rfl | rfl
      · rw [ofV_set_self V y y0 (by have := h.len; omega)]
        simp
      · rw [ofV_neg _ _ h0, ofV_set_self V x h0 (by have := h.len; omega), h.iff _ y0 yn, ofV_neg _ _ h0]
        constructor
        · rintro (g | g) <;> omega
        · intro g; omega
    · rw [ofV_set_other V x y e, ← h.iff y y0 yn]
      constructor
      · rintro (g | g)
        · exact g
        · exact absurd (by rw [g]) e
      · exact .inl
theorem tautB_iff (c : List Int) : tautB c = true ↔ ∃ x ∈ c, -x ∈ c := by
  unfold tautB
  rw [List.any_eq_true]
  constructor
  · rintro ⟨x, hx, h⟩; exact ⟨x, hx, (hasB_iff _ _).1 h⟩
  · rintro ⟨x, hx, h⟩; exact ⟨x, hx, (hasB_iff _ _).2 h⟩
end Go.Proofs.Ytiimkhnngpfnbaa
/- The walk of the reference's Spread. -/
namespace Go.Proofs.Ytiimkhnngpfnbaa
open Go.RowKit
set_option linter.unusedVariables false
/-- what is true so far, in memory -/
structure SetAt (w : World) (v : Value) (S : List Int) (wr : World) : Prop where
  own : OwnV w.heap.size 3 w wr v (intVals S)
  small : ∀ x ∈ S, -1000000 ≤ x ∧ x ≤ 1000000
end Go.Proofs.Ytiimkhnngpfnbaa
/- Spread of what may not be. -/
namespace Go.Proofs.Ytiimkhnngpfnbaa
open Go.RowKit
set_option linter.unusedVariables false
end Go.Proofs.Ytiimkhnngpfnbaa
/- Plain; what must follow does. -/
namespace Go.Proofs.Ytiimkhnngpfnbaa
open Go.RowKit
set_option linter.unusedVariables false
end Go.Proofs.Ytiimkhnngpfnbaa
/- What must follow does: the statements' own small example. -/
namespace Go.Proofs.Ytiimkhnngpfnbaa
open Go.RowKit
set_option linter.unusedVariables false
theorem below_lit (w : World) (o : Obj) : Below w.heap.size w (w.alloc o) := (Below.refl _ _).alloc (Nat.le_refl _) _
end Go.Proofs.Ytiimkhnngpfnbaa
/- Arguments opened; CnfChecks. -/
namespace Go.Proofs.Ytiimkhnngpfnbaa
open Go.RowKit Go.ChangeShapes Go.WideShapes Go.Deep
set_option linter.unusedVariables false
def InR (l : List Int) : Prop := ∀ y ∈ l, -9223372036854775808 ≤ y ∧ y ≤ 9223372036854775807
theorem int_wf {n : Int} (h : (Lit.int .i64 n).wf = true) : -9223372036854775808 ≤ n ∧ n ≤ 9223372036854775807 := by
  simp [Lit.wf] at h
  have h1 : IntKind.i64.min = -9223372036854775808 := by rfl
  have h2 : IntKind.i64.max = 9223372036854775807 := by rfl
  omega
theorem ints_core {w : World} {x : Addr} {len cap : Nat} {zs : List Int} (h1 : len ≤ cap) (h2 : cap ≤ maxLen) (h3 : len ≤ zs.length) (h4 : ∀ i, i < zs.length → w.cell? (x.add i) = some (.int .i64 (zs.getD i 0))) (h5 : ∀ n ∈ zs, (Lit.int .i64 n).wf = true) :
    ∃ l, ValRow w (.slice (some x) len cap) (intVals l) ∧ l.length = len ∧ InR l := by
  have hl : (zs.take len).length = len := by simp; omega
  refine ⟨zs.take len, ?_, hl, fun y hy => int_wf (h5 y (List.mem_of_mem_take hy))⟩
  by_cases h0 : len = 0
  · subst h0; exact .inl ⟨_, _, rfl, by simp [intVals]⟩
  · right
    obtain ⟨b, off, rfl, hc⟩ := ints_at h4 (by omega)
    have hc' : ∀ i, i < len → w.cell? ⟨b, off + i, none⟩ = some (.int .i64 ((zs.take len).getD i 0)) := fun i hi => by
      rw [getD_take zs len i hi]; exact hc i (by omega)
    refine ⟨b, off, cap, by rw [intVals_length, hl], by rw [intVals_length]; omega, h2, lt_of_cell (hc' 0 (by omega)), fun i hi => ?_⟩
    rw [intVals_length] at hi
    rw [hc' i (by omega), intVals_get _ _ hi]
theorem intsC_open {H : Type} {enc : TypeId × Value → H} {w : World} {base : Nat} {spare : Nat → Bool} {held : Bool} (m : Nat) (cs : List Value) (y : DataW H × List MemPlace)
    (h : DataW.trod enc Try.prog w base spare held m 27 cs = some y) : ∃ x : List Int, IntsC w cs x := by
  rcases open_ints Try.underlying27 Try.underlying3 (by kernel_rfl) h with ⟨rfl, _⟩ | ⟨x, l, c, zs, rfl, _, hl, hm, hz, _, hcell, hwz⟩
  · exact ⟨[], _, rfl, .inl ⟨_, _, rfl, rfl⟩, by simp⟩
  · obtain ⟨l', h1, h2, h3⟩ := ints_core (w := w) hl hm (by rw [hz]; split <;> omega) hcell hwz
    exact ⟨l', _, rfl, h1, h3⟩
end Go.Proofs.Ytiimkhnngpfnbaa
