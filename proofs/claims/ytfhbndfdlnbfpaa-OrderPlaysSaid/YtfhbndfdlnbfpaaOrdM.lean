/- The contract of the walk of Bump of a variable. -/
import Derived.Test.YtfhbndfdlnbfpaaOrdL
namespace Go.Proofs.Ytfhbndfdlnbfpaa
open Go.RowKit
set_option linter.unusedVariables false
set_option maxRecDepth 1000000 in
set_option maxHeartbeats 3200000 in
theorem bump_small (w : World) (H S P G cg n : Nat) (sc : List Int) (hp : List Nat) (pl : List Int) (h : HeapAt w H S P (.slice (some ⟨G, 0, none⟩) n cg) sc hp pl) (hh : HeapFrom sc hp 0) (hok : ScOk sc) (v : Nat) (h1 : 1 ≤ v) (h2 : v < sc.length)
    (b : Int) (b0 : 0 ≤ b) (b1 : b ≤ 1099511627776) (hs : sc.getD v 0 + b ≤ 1099511627776) :
    Calls Try.prog 13 #[.pointer (some ⟨H, 0, none⟩), .int .i64 v, .int .i64 b] w fun e w' => e = .returned (.bool false) ∧ BumpPost w H S P G cg n (raise sc v b) hp w' := by
  have hz := h.sz
  have HV : Hid (knownB sc.length (v : Int) = true) := by unfold knownB; exact decide_eq_true (by omega)
  have c0 := h.c0
  have cv := sc_get h.rS h2 rfl
  have fs := h.rS.frozenAt v
  have hx := hok v h2
  have HS := Lib.hid (h.score v (sc.getD v 0 + b))
  have HK : Hid (Kept [H, S, P, G] w (w.setCell ⟨S, v, none⟩ (.int .i64 (sc.getD v 0 + b)))) := (Kept.refl _ w).setCell (by simp) _
  have HR : Hid (sc.set v (sc.getD v 0 + b) = raise sc v b) := Lib.hid rfl
  obtain ⟨x, hxx⟩ : ∃ x, sc.getD v 0 = x := ⟨_, rfl⟩
  rw [hxx] at cv hx HS HK HR hs
  have v0 : (0 : Int) ≤ (v : Int) := by omega
  have v1 : (v : Int) < (sc.length : Int) := by omega
  obtain ⟨x0, x1⟩ := hx
  have HL : Hid (hp.length ≤ 1000) := by
    have := nodup_len sc.length hp h.nd (fun u hu => (h.rg u hu).2)
    exact Lib.hid (by omega)
  have HH := Lib.hid h
  have HF := Lib.hid hh
  have HX := Lib.hid hxx
  clear h hh hok hxx
  obtain ⟨w1, HW⟩ : ∃ w1, Hid (w.setCell ⟨S, v, none⟩ (.int .i64 (x + b)) = w1) := ⟨_, rfl⟩
  have HA : Hid (HeapAt w1 H S P (.slice (some ⟨G, 0, none⟩) n cg) (raise sc v b) hp pl) := by rw [← HW.out, ← HR.out]; exact HS
  have HK1 : Hid (Kept [H, S, P, G] w w1) := by rw [← HW.out]; exact HK
  clear HS HK
  have d0 := HA.out.c0
  have d2 := HA.out.c2
  rw [raise_len] at d0 d2
  have h2' : v < (raise sc v b).length := by rw [raise_len]; exact h2
  have dp := pl_get HA.out h2'
  have dv := sc_get HA.out.rS h2' rfl
  rw [raise_self _ _ _ h2, HX.out] at dv
  clear h2'
  by_cases hv : v ∈ hp
  · obtain ⟨i, hi, hg, e⟩ := HA.out.pl.inn hv
    rw [e] at dp
    have HG := Lib.hid hg
    clear e hg hv
    have i0 : (0 : Int) ≤ (i : Int) := by omega
    have HU : Hid (UpInv (raise sc v b) hp i) := by
      have := upInv_raise HF.out HH.out.nd (fun u hu => (HH.out.rg u hu).2) hi b b0
      rw [HG.out] at this
      exact this
    go_enter Try.func13, Try.ntmps13
    go_wp2_with fail
    refine (known_any _ _ _ _ _ _ _ _ HH.out v true HV).mono ?_
    rintro e w0 ⟨rfl, rfl⟩
    have hw := HW.out
    go_wp2_with fail
    clear hw
    refine (up_any _ H S P G cg _ hp pl n HA.out i hi HL.out HU.out).mono ?_
    rintro e w2 ⟨rfl, hp2, pl2, hA2, hperm2, hf2, hk2⟩
    have HE : Hid (BumpPost w0 H S P G cg n (raise sc v b) hp w2) := ⟨hp2, pl2, hA2, hperm2, hf2, HK1.out.trans hk2⟩
    have f0 := hA2.c0
    rw [raise_len] at f0
    have fv := sc_get hA2.rS (a := v) (by rw [raise_len]; exact h2) rfl
    rw [raise_self _ _ _ h2, HX.out] at fv
    clear hA2 hperm2 hf2 hk2 d0 d2 dp dv c0 cv
    go_wp2_with fail
    go_ret
    exact ⟨rfl, HE.out⟩
  · rw [HA.out.pl.outt (by rw [raise_len]; exact h2) hv] at dp
    have HE : Hid (BumpPost w H S P G cg n (raise sc v b) hp w1) := ⟨hp, pl, HA.out, .refl _, heap_raise_out HF.out hv b, HK1.out⟩
    go_enter Try.func13, Try.ntmps13
    go_wp2_with fail
    refine (known_any _ _ _ _ _ _ _ _ HH.out v true HV).mono ?_
    rintro e w0 ⟨rfl, rfl⟩
    have hw := HW.out
    go_wp2_with fail
    go_ret
    exact ⟨rfl, HE.out⟩
end Go.Proofs.Ytfhbndfdlnbfpaa
