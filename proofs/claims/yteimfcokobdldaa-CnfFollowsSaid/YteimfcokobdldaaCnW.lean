/- The reference's models, and what follows in all of them. -/
import Derived.Test.YteimfcokobdldaaCnV
namespace Go.Proofs.Yteimfcokobdldaa
open Go.RowKit
set_option linter.unusedVariables false
theorem infoB : (Try.prog.info? 4).map (fun i => (i.zero, i.size, i.bytes)) = some (some (.bool false), 1, 1) := by kernel_rfl
theorem boolVals_one (l : List Bool) : ∀ u ∈ boolVals l, u.oneCell' = true := by
  intro u hu
  obtain ⟨s, _, rfl⟩ := List.mem_map.1 hu
  rfl
theorem boolVals_app (a b : List Bool) : boolVals (a ++ b) = boolVals a ++ boolVals b := by simp [boolVals]
theorem Appd.cast {w w' : World} {base : Nat} {e : TypeId} {v v' : Value} {n n' : Nat} {xs l : List Value} (h : Appd w w' base e v v' n xs l) (hn : n = n') : Appd w w' base e v v' n' xs l := hn ▸ h
/-- some model of so many variables -/
def ModelPost (w : World) (n : Nat) (e : Ending) (w' : World) : Prop := ∃ (M : List Bool) (a : Option Addr) (cap : Nat), M.length = n ∧ e = .returned (.slice a M.length cap) ∧ ValRow w' (.slice a M.length cap) (boolVals M) ∧ Below w.heap.size w w'
set_option maxHeartbeats 1600000 in
theorem model_some (n k : Nat) (w : World) (hn : n ≤ 60) (hk : k ≤ 1000000000) : Calls Try.prog 48 #[.int .i64 n, .int .i64 k] w (ModelPost w n) := by
  obtain ⟨i0, hi0, hz0, hz1, hz2⟩ := info_parts' infoB
  have HI0 := Lib.hid hi0
  have HZ0 := Lib.hid hz0
  have HZ1 := Lib.hid hz1
  have HZ2 := Lib.hid hz2
  clear hi0 hz0 hz1 hz2
  go_enter Try.func48, Try.ntmps48
  go_wp2_with fail
  go_loopw [5, 6] (fun s i wr => ∃ (q : Nat) (M : List Bool), i = .int .i64 q ∧ q ≤ n ∧ M.length = q ∧ OwnV w.heap.size 4 w wr s (boolVals M)) (fun _ i _ => n - (intOf i).toNat)
  case atStart => exact ⟨0, [], rfl, Nat.zero_le _, rfl, OwnV.none _ _ _ (Nat.le_refl _)⟩
  case round =>
    obtain ⟨q, M, rfl, hq, hM, hS⟩ := hrel
    have HS := Lib.hid hS
    have HM := Lib.hid hM
    clear hS
    have q0 : (0 : Int) ≤ (q : Int) := by omega
    obtain ⟨sa, sc, rfl⟩ := HS.out.row.shape
    have hml : (boolVals M).length = q := by rw [boolVals_length]; exact hM
    rw [hml]
    rw [hml] at HS
    by_cases hqt : q < n
    · have q1 : (q : Int) < (n : Int) := by omega
      have hdq : decide (q < n) = true := decide_eq_true hqt
      have hbz := HS.out.bsz
      have hown : wr.ownsRow w.heap.size 4 1 (.slice sa q sc) q (boolVals M) := by have := HS.out.own; rwa [hml] at this
      go_wp2_with (at_builtin; refine wpList_app _ rfl _ _ 44 rfl w.heap.size 4 i0 (.bool false) 1 Try.underlying44 HI0.out HZ0.out HZ1.out HZ2.out rfl _ q (boolVals M) rfl (hown.alloc _) (.slice (some ⟨wr.heap.size, 0, none⟩) 1 1) (boolVals [((k : Int) / 2 ^ q).tmod 2 == 1]) rfl (fresh_row _ _ _ _ rfl) (boolVals_one _) (by rw [boolVals_length]; unfold maxLen; simp; omega) (by rw [boolVals_length]; simp; omega) (by simp; omega) ?_)
      intro v2 w2 ha2
      have HS2 : Hid (OwnV w.heap.size 4 w w2 v2 (boolVals (M ++ [((k : Int) / 2 ^ q).tmod 2 == 1]))) := Lib.hid (by
        rw [boolVals_app]
        exact HS.out.app ((Below.refl _ _).alloc (Nat.le_refl _) _) (ha2.cast hml.symm))
      obtain ⟨a2, n2, c2, rfl⟩ := ha2.shape
      clear ha2 hown
      go_wp2_with fail
      go_roundw
      case rel => exact ⟨q + 1, _, by go_num, by omega, by rw [List.length_append, hM]; rfl, HS2.out⟩
      case measure => simp [intOf]; omega
    · have hdq : decide (q < n) = false := decide_eq_false hqt
      have HQ : Hid (q = n) := Lib.hid (by omega)
      have HQT := Lib.hid hqt
      clear hqt hM hml
      go_wp2_with fail
      go_ret
      refine ⟨M, sa, sc, by rw [HM.out, HQ.out], by rw [HM.out]; rfl, by have := HS.out.row; rwa [HM.out], HS.out.be⟩
theorem holdsB_one (c : List Int) (M : List Bool) : holdsB [c] M = c.any (trueB M) := by simp [holdsB]
/-- a row of one clause -/
theorem one_row {w : World} {va : Value} {A : List Int} (ha : ValRow w va (intVals A)) (T : TypeId) (hA : ∀ y ∈ A, -9223372036854775808 ≤ y ∧ y ≤ 9223372036854775807) :
    RowOf 1 IntsC (w.alloc (.cells #[va] T)) (.slice (some ⟨w.heap.size, 0, none⟩) 1 1) [A] := by
  have hbw : Below w.heap.size w (w.alloc (.cells #[va] T)) := (Below.refl _ _).alloc (Nat.le_refl _) _
  have hv := varAt_new w #[va] T _ rfl
  refine .inr ⟨w.heap.size, 0, 1, rfl, by simp, by unfold maxLen; decide, by simp, fun i hi => ?_⟩
  have hi2 : i = 0 := by simpa using hi
  subst hi2
  refine ⟨[va], ⟨rfl, fun j hj => ?_⟩, va, rfl, ha.below hbw, hA⟩
  obtain rfl : j = 0 := by omega
  exact hv.cell 0 (by simp)
theorem litsR {A : List Int} (h : Lits A) : ∀ y ∈ A, -9223372036854775808 ≤ y ∧ y ≤ 9223372036854775807 := fun y hy => by have := h y hy; omega
set_option maxHeartbeats 1600000 in
/-- what holds wherever the clauses do follows -/
theorem follows_yes (n : Nat) (va : Option Addr) (vc : Nat) (LL : List (List Int)) (ca : Option Addr) (cc : Nat) (c : List Int) (w : World) (hL : RowOf 1 IntsC w (.slice va LL.length vc) LL) (hc : ValRow w (.slice ca c.length cc) (intVals c))
    (hn : n ≤ 20) (hLL : ∀ c ∈ LL, Lits c) (hlc : Lits c) (hF : Hid (∀ M : List Bool, holdsB LL M = true → c.any (trueB M) = true)) :
    Calls Try.prog 25 #[.int .i64 n, .slice va LL.length vc, .slice ca c.length cc] w fun e w' => e = .returned (.bool true) ∧ Below w.heap.size w w' := by
  have HL := Lib.hid hL
  have HC := Lib.hid hc
  have HLL := Lib.hid hLL
  have HLC := Lib.hid hlc
  clear hL hc hLL hlc
  have hp1 : (2 : Nat) ^ n ≤ 2 ^ 20 := Nat.pow_le_pow_right (by omega) hn
  obtain ⟨P, hP⟩ : ∃ P, (2 : Nat) ^ n = P := ⟨_, rfl⟩
  rw [hP] at hp1
  have hp2 : P ≤ 1048576 := hp1
  clear hp1
  have hpI : (2 : Int) ^ n = (P : Int) := by rw [← hP]; simp
  go_enter Try.func25, Try.ntmps25
  go_wp2_with fail
  go_loopw [7] (fun i wr => ∃ k : Nat, i = .int .i64 k ∧ k ≤ P ∧ Below w.heap.size w wr) (fun i _ => P - (intOf i).toNat)
  case atStart => exact ⟨0, rfl, Nat.zero_le _, Below.refl _ _⟩
  case round =>
    obtain ⟨k, rfl, hk, hS⟩ := hrel
    have HS := Lib.hid hS
    clear hS
    have k0 : (0 : Int) ≤ (k : Int) := by omega
    by_cases hlt : k < P
    · have k1 : (k : Int) < (P : Int) := by omega
      have hdk : decide (k < P) = true := decide_eq_true hlt
      go_wp2_with fail
      refine (model_some n k _ (by omega) (by omega)).mono ?_
      rintro e w1 ⟨M, ma, mc, hml, rfl, hm, hb⟩
      have HM := Lib.hid hm
      have HB1 := Lib.hid (HS.out.trans (hb.mono HS.out.size))
      have HL1 := Lib.hid (HL.out.below intsC_lasts HB1.out)
      have HC1 := Lib.hid (HC.out.below HB1.out)
      obtain ⟨u, hu⟩ : ∃ u, holdsB LL M = u := ⟨_, rfl⟩
      have HU := Lib.hid hu
      clear hm hb hu hml
      go_wp2_with fail
      refine (rholds_any va vc LL ma mc M _ HL1.out HM.out HLL.out u HU).mono ?_
      rintro e w2 ⟨rfl, rfl⟩
      cases u with
      | false =>
        go_wp2_with fail
        go_roundw
        case rel => exact ⟨k + 1, by go_num, by omega, HB1.out⟩
        case measure => simp [intOf]; omega
      | true =>
        have HT : Hid (holdsB [c] M = true) := Lib.hid (by rw [holdsB_one]; exact hF.out M HU.out)
        have HR1 := Lib.hid (one_row HC1.out 31 (litsR HLC.out))
        have hb1 : Below w1.heap.size w1 (w1.alloc (.cells #[.slice ca c.length cc] 31)) := (Below.refl _ _).alloc (Nat.le_refl _) _
        have HM1 := Lib.hid (HM.out.below hb1)
        have HB2 := Lib.hid (HB1.out.trans (hb1.mono HB1.out.size))
        clear hb1
        go_wp2_with fail
        refine (rholds_any _ 1 [c] ma mc M _ HR1.out HM1.out (fun x hx => by rw [List.mem_singleton] at hx; rw [hx]; exact HLC.out) true HT).mono ?_
        rintro e w3 ⟨rfl, rfl⟩
        go_wp2_with fail
        go_roundw
        case rel => exact ⟨k + 1, by go_num, by omega, HB2.out⟩
        case measure => simp [intOf]; omega
    · have hdk : decide (k < P) = false := decide_eq_false hlt
      have HLT := Lib.hid hlt
      clear hlt
      go_wp2_with fail
      go_ret
      exact ⟨rfl, HS.out⟩
end Go.Proofs.Yteimfcokobdldaa
