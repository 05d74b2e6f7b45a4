/- The document's bag: Pop, Bump, New. -/
import Derived.Test.YtfhbndfdlnbfpaaOrdY
namespace Go.Proofs.Ytfhbndfdlnbfpaa
open Go.RowKit
set_option linter.unusedVariables false
/-- the best of 1 .. k-1 that are in; 0: none -/
def BestTo (sc : List Int) (ins : List Nat) (k p : Nat) : Prop := (p = 0 ∧ ∀ u ∈ ins, k ≤ u) ∨ (1 ≤ p ∧ p < k ∧ p ∈ ins ∧ ∀ u ∈ ins, u < k → ¬ ahd sc u p)
theorem BestTo.skip {sc : List Int} {ins : List Nat} {k p : Nat} (h : BestTo sc ins k p) (hk : k ∉ ins) : BestTo sc ins (k + 1) p := by
  rcases h with ⟨rfl, h⟩ | ⟨h1, h2, h3, h4⟩
  · refine .inl ⟨rfl, fun u hu => ?_⟩
    have := h u hu
    have : u ≠ k := fun e => hk (e ▸ hu)
    omega
  · refine .inr ⟨h1, by omega, h3, fun u hu hl => ?_⟩
    have : u ≠ k := fun e => hk (e ▸ hu)
    exact h4 u hu (by omega)
theorem BestTo.first {sc : List Int} {ins : List Nat} {k : Nat} (h : BestTo sc ins k 0) (h1 : 1 ≤ k) (hk : k ∈ ins) : BestTo sc ins (k + 1) k := by
  rcases h with ⟨_, h⟩ | ⟨h1, _⟩
  · refine .inr ⟨h1, by omega, hk, fun u hu hl => ?_⟩
    have := h u hu
    obtain rfl : u = k := by omega
    unfold ahd; omega
  · omega
theorem BestTo.more {sc : List Int} {ins : List Nat} {k p : Nat} (h : BestTo sc ins k p) (h1 : 1 ≤ p) (hk : k ∈ ins) (hs : sc.getD p 0 < sc.getD k 0) : BestTo sc ins (k + 1) k := by
  rcases h with ⟨h0, h⟩ | ⟨_, h2, h3, h4⟩
  · omega
  · refine .inr ⟨by omega, by omega, hk, fun u hu hl => ?_⟩
    by_cases e : u = k
    · subst e; unfold ahd; omega
    · have := h4 u hu (by omega)
      unfold ahd at this ⊢; omega
theorem BestTo.less {sc : List Int} {ins : List Nat} {k p : Nat} (h : BestTo sc ins k p) (h1 : 1 ≤ p) (hs : ¬ sc.getD p 0 < sc.getD k 0) : BestTo sc ins (k + 1) p := by
  rcases h with ⟨h0, h⟩ | ⟨_, h2, h3, h4⟩
  · omega
  · refine .inr ⟨by omega, by omega, h3, fun u hu hl => ?_⟩
    by_cases e : u = k
    · subst e; unfold ahd; omega
    · exact h4 u hu (by omega)
theorem InOf.outt {m : Nat} {inn : List Int} {ins : List Nat} (h : InOf m inn ins) (hn : ins.Nodup) (hl : inn.length = m) {p : Nat} (hp : p < m) : InOf m (inn.set p 0) (ins.erase p) := by
  intro v hv
  by_cases e : v = p
  · subst e
    rw [if_neg hn.not_mem_erase]
    simp [hl, hv]
  · have := h v hv
    have e2 : (inn.set p 0).getD v 0 = inn.getD v 0 := by simp [Ne.symm e]
    rw [e2, this]
    simp only [List.mem_erase_of_ne e]
theorem InOf.inn {m : Nat} {inn : List Int} {ins : List Nat} (h : InOf m inn ins) (hl : inn.length = m) {p : Nat} (hp : p < m) : InOf m (inn.set p 1) (p :: ins) := by
  intro v hv
  by_cases e : v = p
  · subst e
    simp [hl, hv]
  · have := h v hv
    have e2 : (inn.set p 1).getD v 0 = inn.getD v 0 := by simp [Ne.symm e]
    rw [e2, this]
    simp [e]
def BPop (w : World) (B S I : Nat) (sc inn : List Int) (ins : List Nat) (e : Ending) (w' : World) : Prop :=
  (ins = [] ∧ e = .returned (.int .i64 0) ∧ ∃ m, w' = w.drewN m) ∨
  ∃ t, IsTop sc ins t ∧ e = .returned (.int .i64 (t : Nat)) ∧ BagAt w' B S I sc (inn.set t 0) ∧ Kept [I] w w'
set_option maxHeartbeats 2000000 in
theorem bpop (w : World) (B S I : Nat) (sc inn : List Int) (ins : List Nat) (h : BagAt w B S I sc inn) (hi : InOf sc.length inn ins) (hr : ∀ v ∈ ins, 1 ≤ v ∧ v < sc.length) (hp : 1 ≤ sc.length) :
    Calls Try.prog 21 #[.pointer (some ⟨B, 0, none⟩)] w (BPop w B S I sc inn ins) := by
  have HH := Lib.hid h
  have HI := Lib.hid hi
  have HR := Lib.hid hr
  have hz := h.sz
  clear h hi hr
  obtain ⟨W, HW⟩ : ∃ W, Hid (w = W) := ⟨_, rfl⟩
  have c1' := HH.out.c1
  go_enter Try.func21, Try.ntmps21
  go_wp2_with fail
  go_loopw [3, 4] (fun a v wr => ∃ p k : Nat, v = .int .i64 k ∧ a = .int .i64 p ∧ 1 ≤ k ∧ k ≤ sc.length ∧ p < sc.length ∧ BestTo sc ins k p ∧ ∃ m, wr = w.drewN m) (fun _ v _ => sc.length - (intOf v).toNat)
  case atStart => exact ⟨0, 1, rfl, rfl, by omega, by omega, by omega, .inl ⟨rfl, fun u hu => (HR.out u hu).1⟩, 0, rfl⟩
  case round =>
    obtain ⟨p, k, rfl, rfl, k0, k1, p1, hb, m, rfl⟩ := hrel
    have HB := Lib.hid hb
    have hbag := HH.out.drewN m
    obtain ⟨wm, HWM⟩ : ∃ wm, Hid (w.drewN m = wm) := ⟨_, rfl⟩
    rw [HWM.out] at hbag ⊢
    have HBG := Lib.hid hbag
    have c0 := hbag.c0
    have c1 := hbag.c1
    have p0 : (0 : Int) ≤ (p : Int) := by omega
    have p2 : (p : Int) < (sc.length : Int) := by omega
    by_cases hlt : k < sc.length
    · have ci := hbag.getI hlt
      have cs := hbag.getS hlt
      have cp := hbag.getS p1
      have k2 : (0 : Int) ≤ (k : Int) := by omega
      have k3 : (k : Int) < (sc.length : Int) := by omega
      have hd : decide (k < sc.length) = true := decide_eq_true hlt
      rw [HI.out k hlt] at ci
      obtain ⟨x, hx⟩ : ∃ x, sc.getD k 0 = x := ⟨_, rfl⟩
      obtain ⟨y, hy⟩ : ∃ y, sc.getD p 0 = y := ⟨_, rfl⟩
      rw [hx] at cs
      rw [hy] at cp
      have HX := Lib.hid hx
      have HY := Lib.hid hy
      clear hx hy hbag hb
      by_cases hki : k ∈ ins
      · rw [if_pos hki] at ci
        have HK := Lib.hid hki
        clear hki
        by_cases hp0 : p = 0
        · subst hp0
          go_wp2_with fail
          go_quiet (fail)
          go_wp2_with fail
          go_roundw
          case rel => exact ⟨k, k + 1, by go_num, rfl, by omega, by omega, hlt, HB.out.first k0 HK.out, m + nq, by rw [← HWM.out, World.drewN_drewN]⟩
          case measure => simp [intOf]; omega
        · have hd2 : decide ((p : Int) = 0) = false := decide_eq_false (by omega)
          have hd3 : ((p : Int) == 0) = false := by simp; omega
          by_cases hxy : y < x
          · have hd4 : decide (y < x) = true := decide_eq_true hxy
            go_wp2_with fail
            go_quiet (fail)
            go_wp2_with fail
            go_roundw
            case rel => exact ⟨k, k + 1, by go_num, rfl, by omega, by omega, hlt, HB.out.more (by omega) HK.out (by rw [HX.out, HY.out]; omega), m + nq, by rw [← HWM.out, World.drewN_drewN]⟩
            case measure => simp [intOf]; omega
          · have hd4 : decide (y < x) = false := decide_eq_false hxy
            go_wp2_with fail
            go_quiet (fail)
            go_wp2_with fail
            go_roundw
            case rel => exact ⟨p, k + 1, by go_num, rfl, by omega, by omega, p1, HB.out.less (by omega) (by rw [HX.out, HY.out]; omega), m + nq, by rw [← HWM.out, World.drewN_drewN]⟩
            case measure => simp [intOf]; omega
      · rw [if_neg hki] at ci
        have HK := Lib.hid hki
        clear hki
        go_wp2_with fail
        go_quiet (fail)
        go_wp2_with fail
        go_roundw
        case rel => exact ⟨p, k + 1, by go_num, rfl, by omega, by omega, p1, HB.out.skip HK.out, m + nq, by rw [← HWM.out, World.drewN_drewN]⟩
        case measure => simp [intOf]; omega
    · obtain rfl : k = sc.length := by omega
      have hd : decide (sc.length < sc.length) = false := decide_eq_false (by omega)
      have hd1 : decide ((sc.length : Int) < (sc.length : Int)) = false := decide_eq_false (by omega)
      have ci := hbag.getI p1
      have fi := hbag.rI.frozenAt p
      rcases hb with ⟨rfl, hn⟩ | ⟨q1, q2, q3, q4⟩
      · have HN : Hid (ins = []) := by
          refine Lib.hid (List.eq_nil_iff_forall_not_mem.2 (fun u hu => ?_))
          have := hn u hu
          have := (HR.out u hu).2
          omega
        clear hn hbag
        go_wp2_with fail
        go_ret
        exact .inl ⟨HN.out, rfl, m, HWM.out.symm⟩
      · have HT : Hid (IsTop sc ins p) := ⟨q3, fun u hu => q4 u hu (HR.out u hu).2⟩
        have q0 : (0 : Int) < (p : Int) := by omega
        clear q3 q4 hbag
        go_wp2_with fail
        go_ret
        refine .inr ⟨p, HT.out, rfl, HBG.out.inn p 0, ?_⟩
        rw [← HWM.out]
        exact ((Kept.refl _ w).drewN m).setCell (by simp) _
end Go.Proofs.Ytfhbndfdlnbfpaa
