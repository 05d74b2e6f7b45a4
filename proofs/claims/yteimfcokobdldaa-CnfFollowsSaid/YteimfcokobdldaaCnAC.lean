/- CnfNorms. -/
import Derived.Test.YteimfcokobdldaaCnAB
import Derived.Test.YteimfcokobdldaaHeld
namespace Go.Proofs.Yteimfcokobdldaa
open Go.RowKit
set_option linter.unusedVariables false
set_option linter.unusedSimpArgs false
theorem lits_okC {n : Int} {c : List Int} (h : okC n c = true) (hn : n ≤ 1000000) : Lits c := fun x hx => by have := okC_mem h hx; omega
set_option maxRecDepth 100000 in
set_option maxHeartbeats 3200000 in
theorem cnfNorms_list (a : Option Addr) (cap : Nat) (c : List Int) (w : World) (h : ValRow w (.slice a c.length cap) (intVals c)) :
    Calls Try.prog 4 #[.slice a c.length cap] w fun e w' => e = .returned (.bool true) ∧ Below w.heap.size w w' := by
  have hmx := h.len
  rw [intVals_length] at hmx
  unfold maxLen at hmx
  have H := Lib.hid h
  clear h
  obtain ⟨u, hu⟩ : ∃ u, okC (max 1000 0) c = u := ⟨_, rfl⟩
  have HU := Lib.hid hu
  clear hu
  by_cases hlen : c.length ≤ 60
  · have d1 : decide ((60 : Int) < (c.length : Int)) = false := decide_eq_false (by omega)
    have d1' : decide (60 < c.length) = false := decide_eq_false (by omega)
    go_enter Try.func4, Try.ntmps4
    go_wp2_with fail
    refine (resolved_true _).mono ?_
    rintro e w1 ⟨rfl, hb1⟩
    have HB1 := Lib.hid hb1
    have H1 := Lib.hid (H.out.below hb1)
    clear hb1
    go_wp2_with fail
    refine (rcheckClause_any a cap c 1000 _ H1.out (by omega) u HU).mono ?_
    rintro e w2 ⟨rfl, rfl⟩
    cases u with
    | false =>
      have e0 : chkV false = 8 := rfl
      go_wp2_with fail
      refine (resolved_true _).mono ?_
      rintro e w3 ⟨rfl, hb3⟩
      have HB3 := Lib.hid (HB1.out.trans (hb3.mono HB1.out.size))
      clear hb3
      go_wp2_with fail
      go_ret
      exact ⟨rfl, HB3.out⟩
    | true =>
      have e0 : chkV true = 0 := rfl
      have HLC : Hid (Lits c) := Lib.hid (lits_okC HU.out (by omega))
      obtain ⟨i0, hi0, hz0, hz1, hz2⟩ := info_parts' infoI
      have HI0 := Lib.hid hi0
      have HZ0 := Lib.hid hz0
      have HZ1 := Lib.hid hz1
      have HZ2 := Lib.hid hz2
      clear hi0 hz0 hz1 hz2
      have HOL := Lib.hid (OwnV.lit w1 #[] 3 0 rfl (Nat.zero_le _))
      have HR0 := Lib.hid (H1.out.below (below_lit w1 (.cells #[] 3)))
      go_wp2_with (at_builtin; refine wpList_app _ rfl _ _ 31 rfl w1.heap.size 3 i0 (.int .i64 0) 8 Try.underlying31 HI0.out HZ0.out HZ1.out HZ2.out rfl _ 0 [] rfl HOL.out.own (.slice a c.length cap) (intVals c) rfl HR0.out (intVals_one _) (by rw [intVals_length]; unfold maxLen; omega) (by rw [intVals_length]; omega) (by simp) ?_)
      intro v2 w2 ha2
      have HD : Hid (OwnV w1.heap.size 3 w1 w2 v2 (intVals c)) := Lib.hid (HOL.out.app (Below.refl _ _) ha2)
      have hrow := HD.out.row
      obtain ⟨da, dc, rfl⟩ := hrow.shape
      rw [intVals_length] at hrow HD
      rw [intVals_length]
      have HDR := Lib.hid hrow
      have HB2 := Lib.hid (HB1.out.trans (HD.out.be.mono HB1.out.size))
      have H2 := Lib.hid (H1.out.below HD.out.be)
      clear ha2 hrow HOL HR0
      go_wp2_with fail
      refine (norm_any da dc c _ HDR.out (by omega) (fun x hx => (HLC.out x hx).2)).mono ?_
      rintro e W ⟨xa, xc, rfl, hx, hbx⟩
      have HX := Lib.hid hx
      have HDW := Lib.hid (HDR.out.below hbx)
      have HCW := Lib.hid (H2.out.below hbx)
      have HBW := Lib.hid (HB2.out.trans (hbx.mono HB2.out.size))
      have HB0 : Below W.heap.size W W.drew := Below.drew (Below.refl _ _)
      obtain ⟨tv, htv⟩ : ∃ t, tautB c = t := ⟨_, rfl⟩
      have HTV := Lib.hid htv
      have htt : (tv == tv) = true := by simp
      have HL2 : Hid (∀ x ∈ c, -1000000 ≤ x ∧ x ≤ 1000000) := Lib.hid (fun x hx => (HLC.out x hx).2)
      have HLN : Hid (c.length ≤ 1000000) := Lib.hid (by omega)
      clear hx hbx htv
      by_cases hc0 : c.length = 0
      · have e1 : ((c.length : Int) == 0) = true := iet (by omega)
        have e1' : (c.length == 0) = true := by simp [hc0]
        clear hc0
        go_wp2_with fail
        refine held_start (S := fun _ => True) 33 (by rfl) (by kernel_rfl) ?_ (fun hS0 => ?_)
        · trivial
        refine held_take 0 (some 23) ?_ 32 rfl rfl (by kernel_rfl) (by kernel_rfl) (by kernel_rfl) (fun _ _ _ h => h) (by rfl) ?_ hS0 ?_
        rotate_left
        · intro wz hSw
          (try dsimp only at hSw)
          go_simp
          (try with_reducible rfl)
        (try simp only [Act.put, List.setIfInBounds_toArray, List.set_cons_zero, List.set_cons_succ])
        refine held_take 1 (some 24) ?_ 31 rfl rfl (by kernel_rfl) (by kernel_rfl) (by kernel_rfl) (fun _ _ _ h => h) (by rfl) ?_ hS0 ?_
        rotate_left
        · intro wz hSw
          (try dsimp only at hSw)
          go_simp
          (try with_reducible rfl)
        (try simp only [Act.put, List.setIfInBounds_toArray, List.set_cons_zero, List.set_cons_succ])
        refine held_call 2 30 rfl (by kernel_rfl) (by rfl) (fun K hK => ?_)
        go_simp
        (refine (rnorm_any _ _ c _ (HCW.out.below HB0) HLN.out HL2.out).mono ?_; rintro e wA ⟨na, nc, rfl, hnA, hbA⟩; have HBA : Below W.heap.size W wA := HB0.trans hbA)
        go_wp2_with fail
        refine hK.out _ _ ?_ (fun hS1 => ?_)
        · trivial
        clear hK K
        refine held_call 3 29 rfl (by kernel_rfl) (by rfl) (fun K hK => ?_)
        go_simp
        (refine (ints_same _ _ (normL c) _ (HX.out.below HBA) hnA).mono ?_; rintro e wB ⟨rfl, m1, hwB⟩; have HBB : Below W.heap.size W wB := (by rw [hwB]; exact below_drewN HBA m1); clear hwB)
        go_wp2_with fail
        refine hK.out _ _ ?_ (fun hS2 => ?_)
        · trivial
        clear hK K
        refine held_take 4 (some 27) ?_ 28 rfl rfl (by kernel_rfl) (by kernel_rfl) (by kernel_rfl) (fun _ _ _ h => h) (by rfl) ?_ hS2 ?_
        rotate_left
        · intro wz hSw
          (try dsimp only at hSw)
          go_simp
          (try with_reducible rfl)
        (try simp only [Act.put, List.setIfInBounds_toArray, List.set_cons_zero, List.set_cons_succ])
        refine held_take 5 (some 28) ?_ 27 rfl rfl (by kernel_rfl) (by kernel_rfl) (by kernel_rfl) (fun _ _ _ h => h) (by rfl) ?_ hS2 ?_
        rotate_left
        · intro wz hSw
          (try dsimp only at hSw)
          go_simp
          (try with_reducible rfl)
        (try simp only [Act.put, List.setIfInBounds_toArray, List.set_cons_zero, List.set_cons_succ])
        refine held_take 6 (some 29) ?_ 26 rfl rfl (by kernel_rfl) (by kernel_rfl) (by kernel_rfl) (fun _ _ _ h => h) (by rfl) ?_ hS2 ?_
        rotate_left
        · intro wz hSw
          (try dsimp only at hSw)
          go_simp
          (try with_reducible rfl)
        (try simp only [Act.put, List.setIfInBounds_toArray, List.set_cons_zero, List.set_cons_succ])
        refine held_call 7 25 rfl (by kernel_rfl) (by rfl) (fun K hK => ?_)
        go_simp
        (refine (ints_same _ _ c _ (HDW.out.below HBB) (HCW.out.below HBB)).mono ?_; rintro e wC ⟨rfl, m2, hwC⟩; have HBC : Below W.heap.size W wC := (by rw [hwC]; exact below_drewN HBB m2); clear hwC)
        go_wp2_with fail
        refine hK.out _ _ ?_ (fun hS3 => ?_)
        · trivial
        clear hK K
        refine held_take 8 (some 31) ?_ 24 rfl rfl (by kernel_rfl) (by kernel_rfl) (by kernel_rfl) (fun _ _ _ h => h) (by rfl) ?_ hS3 ?_
        rotate_left
        · intro wz hSw
          (try dsimp only at hSw)
          go_simp
          (try with_reducible rfl)
        (try simp only [Act.put, List.setIfInBounds_toArray, List.set_cons_zero, List.set_cons_succ])
        refine held_take 9 (some 32) ?_ 23 rfl rfl (by kernel_rfl) (by kernel_rfl) (by kernel_rfl) (fun _ _ _ h => h) (by rfl) ?_ hS3 ?_
        rotate_left
        · intro wz hSw
          (try dsimp only at hSw)
          go_simp
          (try with_reducible rfl)
        (try simp only [Act.put, List.setIfInBounds_toArray, List.set_cons_zero, List.set_cons_succ])
        refine held_take 10 (some 33) ?_ 22 rfl rfl (by kernel_rfl) (by kernel_rfl) (by kernel_rfl) (fun _ _ _ h => h) (by rfl) ?_ hS3 ?_
        rotate_left
        · intro wz hSw
          (try dsimp only at hSw)
          go_simp
          (try with_reducible rfl)
        (try simp only [Act.put, List.setIfInBounds_toArray, List.set_cons_zero, List.set_cons_succ])
        refine held_take 12 (some 35) ?_ 21 rfl rfl (by kernel_rfl) (by kernel_rfl) (by kernel_rfl) (fun _ _ _ h => h) (by rfl) ?_ hS3 ?_
        rotate_left
        · intro wz hSw
          (try dsimp only at hSw)
          go_simp
          (try with_reducible rfl)
        (try simp only [Act.put, List.setIfInBounds_toArray, List.set_cons_zero, List.set_cons_succ])
        refine held_call 11 20 rfl (by kernel_rfl) (by rfl) (fun K hK => ?_)
        go_simp
        (refine (taut_any _ _ c _ (HDW.out.below HBC) HLC.out tv HTV).mono ?_; rintro e wD ⟨rfl, hbD⟩; have HBD : Below W.heap.size W wD := HBC.trans (hbD.mono HBC.size))
        go_wp2_with fail
        refine hK.out _ _ ?_ (fun hS4 => ?_)
        · trivial
        clear hK K
        refine held_call 13 19 rfl (by kernel_rfl) (by rfl) (fun K hK => ?_)
        go_simp
        (refine (rtaut_any _ _ c _ (HCW.out.below HBD) HLC.out tv HTV).mono ?_; rintro e wE ⟨rfl, rfl⟩)
        go_wp2_with fail
        refine hK.out _ _ ?_ (fun hS5 => ?_)
        · trivial
        clear hK K
        refine held_take 14 (some 37) ?_ 18 rfl rfl (by kernel_rfl) (by kernel_rfl) (by kernel_rfl) (fun _ _ _ h => h) (by rfl) ?_ hS5 ?_
        rotate_left
        · intro wz hSw
          (try dsimp only at hSw)
          go_simp
          (try with_reducible rfl)
        (try simp only [Act.put, List.setIfInBounds_toArray, List.set_cons_zero, List.set_cons_succ])
        refine held_take 15 (some 38) ?_ 17 rfl rfl (by kernel_rfl) (by kernel_rfl) (by kernel_rfl) (fun _ _ _ h => h) (by rfl) ?_ hS5 ?_
        rotate_left
        · intro wz hSw
          (try dsimp only at hSw)
          go_simp
          (try with_reducible rfl)
        (try simp only [Act.put, List.setIfInBounds_toArray, List.set_cons_zero, List.set_cons_succ])
        refine held_take 16 (some 39) ?_ 16 rfl rfl (by kernel_rfl) (by kernel_rfl) (by kernel_rfl) (fun _ _ _ h => h) (by rfl) ?_ hS5 ?_
        rotate_left
        · intro wz hSw
          (try dsimp only at hSw)
          go_simp
          (try with_reducible rfl)
        (try simp only [Act.put, List.setIfInBounds_toArray, List.set_cons_zero, List.set_cons_succ])
        refine held_take 17 (some 40) ?_ 15 rfl rfl (by kernel_rfl) (by kernel_rfl) (by kernel_rfl) (fun _ _ _ h => h) (by rfl) ?_ hS5 ?_
        rotate_left
        · intro wz hSw
          (try dsimp only at hSw)
          go_simp
          (try with_reducible rfl)
        (try simp only [Act.put, List.setIfInBounds_toArray, List.set_cons_zero, List.set_cons_succ])
        refine held_take 18 (some 41) ?_ 14 rfl rfl (by kernel_rfl) (by kernel_rfl) (by kernel_rfl) (fun _ _ _ h => h) (by rfl) ?_ hS5 ?_
        rotate_left
        · intro wz hSw
          (try dsimp only at hSw)
          go_simp
          (try with_reducible rfl)
        (try simp only [Act.put, List.setIfInBounds_toArray, List.set_cons_zero, List.set_cons_succ])
        refine held_take 19 (some 42) ?_ 13 rfl rfl (by kernel_rfl) (by kernel_rfl) (by kernel_rfl) (fun _ _ _ h => h) (by rfl) ?_ hS5 ?_
        rotate_left
        · intro wz hSw
          (try dsimp only at hSw)
          go_simp
          (try with_reducible rfl)
        (try simp only [Act.put, List.setIfInBounds_toArray, List.set_cons_zero, List.set_cons_succ])
        refine held_take 20 (some 43) ?_ 12 rfl rfl (by kernel_rfl) (by kernel_rfl) (by kernel_rfl) (fun _ _ _ h => h) (by rfl) ?_ hS5 ?_
        rotate_left
        · intro wz hSw
          (try dsimp only at hSw)
          go_simp
          (try with_reducible rfl)
        (try simp only [Act.put, List.setIfInBounds_toArray, List.set_cons_zero, List.set_cons_succ])
        refine held_skip 21 (some 44) 11 rfl rfl (by kernel_rfl) (by kernel_rfl) (by kernel_rfl) (fun _ _ _ h => h) (by rfl) hS5 ?_
        (try simp only [Act.put, List.setIfInBounds_toArray, List.set_cons_zero, List.set_cons_succ])
        refine held_skip 22 (some 45) 10 rfl rfl (by kernel_rfl) (by kernel_rfl) (by kernel_rfl) (fun _ _ _ h => h) (by rfl) hS5 ?_
        (try simp only [Act.put, List.setIfInBounds_toArray, List.set_cons_zero, List.set_cons_succ])
        refine held_skip 23 (some 46) 9 rfl rfl (by kernel_rfl) (by kernel_rfl) (by kernel_rfl) (fun _ _ _ h => h) (by rfl) hS5 ?_
        (try simp only [Act.put, List.setIfInBounds_toArray, List.set_cons_zero, List.set_cons_succ])
        refine held_skip 24 (some 47) 8 rfl rfl (by kernel_rfl) (by kernel_rfl) (by kernel_rfl) (fun _ _ _ h => h) (by rfl) hS5 ?_
        (try simp only [Act.put, List.setIfInBounds_toArray, List.set_cons_zero, List.set_cons_succ])
        refine held_skip 25 (some 48) 7 rfl rfl (by kernel_rfl) (by kernel_rfl) (by kernel_rfl) (fun _ _ _ h => h) (by rfl) hS5 ?_
        (try simp only [Act.put, List.setIfInBounds_toArray, List.set_cons_zero, List.set_cons_succ])
        refine held_skip 26 (some 49) 6 rfl rfl (by kernel_rfl) (by kernel_rfl) (by kernel_rfl) (fun _ _ _ h => h) (by rfl) hS5 ?_
        (try simp only [Act.put, List.setIfInBounds_toArray, List.set_cons_zero, List.set_cons_succ])
        refine held_skip 27 (some 50) 5 rfl rfl (by kernel_rfl) (by kernel_rfl) (by kernel_rfl) (fun _ _ _ h => h) (by rfl) hS5 ?_
        (try simp only [Act.put, List.setIfInBounds_toArray, List.set_cons_zero, List.set_cons_succ])
        refine held_skip 28 (some 51) 4 rfl rfl (by kernel_rfl) (by kernel_rfl) (by kernel_rfl) (fun _ _ _ h => h) (by rfl) hS5 ?_
        (try simp only [Act.put, List.setIfInBounds_toArray, List.set_cons_zero, List.set_cons_succ])
        refine held_skip 29 (some 52) 3 rfl rfl (by kernel_rfl) (by kernel_rfl) (by kernel_rfl) (fun _ _ _ h => h) (by rfl) hS5 ?_
        (try simp only [Act.put, List.setIfInBounds_toArray, List.set_cons_zero, List.set_cons_succ])
        refine held_take 30 (some 53) ?_ 2 rfl rfl (by kernel_rfl) (by kernel_rfl) (by kernel_rfl) (fun _ _ _ h => h) (by rfl) ?_ hS5 ?_
        rotate_left
        · intro wz hSw
          (try dsimp only at hSw)
          go_simp
          (try with_reducible rfl)
        (try simp only [Act.put, List.setIfInBounds_toArray, List.set_cons_zero, List.set_cons_succ])
        refine held_take 31 (some 54) ?_ 1 rfl rfl (by kernel_rfl) (by kernel_rfl) (by kernel_rfl) (fun _ _ _ h => h) (by rfl) ?_ hS5 ?_
        rotate_left
        · intro wz hSw
          (try dsimp only at hSw)
          go_simp
          (try with_reducible rfl)
        (try simp only [Act.put, List.setIfInBounds_toArray, List.set_cons_zero, List.set_cons_succ])
        refine held_take 32 (some 2) ?_ 0 rfl rfl (by kernel_rfl) (by kernel_rfl) (by kernel_rfl) (fun _ _ _ h => h) (by rfl) ?_ hS5 ?_
        rotate_left
        · intro wz hSw
          (try dsimp only at hSw)
          go_simp
          (try with_reducible rfl)
        (try simp only [Act.put, List.setIfInBounds_toArray, List.set_cons_zero, List.set_cons_succ])
        refine wpAnyH_done (by kernel_rfl) ?_ _
        all_goals
          go_wp2_with fail
          go_ret
          exact ⟨rfl, HBW.out.trans (HBD.mono HBW.out.size)⟩
      · have e1 : ((c.length : Int) == 0) = false := ief (by omega)
        have e1' : (c.length == 0) = false := by simp [hc0]
        obtain ⟨b, off, rfl, hbl, hcx⟩ := int_at HCW.out 0 (by omega)
        have HXB : Hid (c.getD 0 0 ∈ c) := Lib.hid (by rw [show c.getD 0 0 = c[0]'(by omega) from by simp [show 0 < c.length by omega]]; exact List.getElem_mem _)
        obtain ⟨x, hxx⟩ : ∃ x, c.getD 0 0 = x := ⟨_, rfl⟩
        rw [hxx, Nat.add_zero] at hcx
        rw [hxx] at HXB
        have hxr := HL2.out x HXB.out
        have SK : Hid (∀ w', Below W.heap.size W w' → w'.cell? ⟨b, off, none⟩ = some (.int .i64 x)) := Lib.hid (fun w' hb => (hb.cell (p := ⟨b, off, none⟩) hbl).trans hcx)
        obtain ⟨vx, hvx⟩ : ∃ v, varI x = v := ⟨_, rfl⟩
        have hvv : (vx == vx) = true := by simp
        have l1 : (0 : Int) < (c.length : Int) := by omega
        have hlp : 0 < c.length := by omega
        clear hc0 hxx
        go_wp2_with fail
        refine held_start (S := fun w' => w'.cell? ⟨b, off, none⟩ = some (.int .i64 x)) 33 (by rfl) (by kernel_rfl) ?_ (fun hS0 => ?_)
        · first | with_reducible exact SK.out _ HBD | with_reducible exact SK.out _ HBC | with_reducible exact SK.out _ HBB | with_reducible exact SK.out _ HBA | with_reducible exact SK.out _ HB0
        refine held_take 0 (some 23) ?_ 32 rfl rfl (by kernel_rfl) (by kernel_rfl) (by kernel_rfl) (fun _ _ _ h => h) (by rfl) ?_ hS0 ?_
        rotate_left
        · intro wz hSw
          (try dsimp only at hSw)
          go_simp
          (try with_reducible rfl)
        (try simp only [Act.put, List.setIfInBounds_toArray, List.set_cons_zero, List.set_cons_succ])
        refine held_take 1 (some 24) ?_ 31 rfl rfl (by kernel_rfl) (by kernel_rfl) (by kernel_rfl) (fun _ _ _ h => h) (by rfl) ?_ hS0 ?_
        rotate_left
        · intro wz hSw
          (try dsimp only at hSw)
          go_simp
          (try with_reducible rfl)
        (try simp only [Act.put, List.setIfInBounds_toArray, List.set_cons_zero, List.set_cons_succ])
        refine held_call 2 30 rfl (by kernel_rfl) (by rfl) (fun K hK => ?_)
        go_simp
        (refine (rnorm_any _ _ c _ (HCW.out.below HB0) HLN.out HL2.out).mono ?_; rintro e wA ⟨na, nc, rfl, hnA, hbA⟩; have HBA : Below W.heap.size W wA := HB0.trans hbA)
        go_wp2_with fail
        refine hK.out _ _ ?_ (fun hS1 => ?_)
        · first | with_reducible exact SK.out _ HBD | with_reducible exact SK.out _ HBC | with_reducible exact SK.out _ HBB | with_reducible exact SK.out _ HBA | with_reducible exact SK.out _ HB0
        clear hK K
        refine held_call 3 29 rfl (by kernel_rfl) (by rfl) (fun K hK => ?_)
        go_simp
        (refine (ints_same _ _ (normL c) _ (HX.out.below HBA) hnA).mono ?_; rintro e wB ⟨rfl, m1, hwB⟩; have HBB : Below W.heap.size W wB := (by rw [hwB]; exact below_drewN HBA m1); clear hwB)
        go_wp2_with fail
        refine hK.out _ _ ?_ (fun hS2 => ?_)
        · first | with_reducible exact SK.out _ HBD | with_reducible exact SK.out _ HBC | with_reducible exact SK.out _ HBB | with_reducible exact SK.out _ HBA | with_reducible exact SK.out _ HB0
        clear hK K
        refine held_take 4 (some 27) ?_ 28 rfl rfl (by kernel_rfl) (by kernel_rfl) (by kernel_rfl) (fun _ _ _ h => h) (by rfl) ?_ hS2 ?_
        rotate_left
        · intro wz hSw
          (try dsimp only at hSw)
          go_simp
          (try with_reducible rfl)
        (try simp only [Act.put, List.setIfInBounds_toArray, List.set_cons_zero, List.set_cons_succ])
        refine held_take 5 (some 28) ?_ 27 rfl rfl (by kernel_rfl) (by kernel_rfl) (by kernel_rfl) (fun _ _ _ h => h) (by rfl) ?_ hS2 ?_
        rotate_left
        · intro wz hSw
          (try dsimp only at hSw)
          go_simp
          (try with_reducible rfl)
        (try simp only [Act.put, List.setIfInBounds_toArray, List.set_cons_zero, List.set_cons_succ])
        refine held_take 6 (some 29) ?_ 26 rfl rfl (by kernel_rfl) (by kernel_rfl) (by kernel_rfl) (fun _ _ _ h => h) (by rfl) ?_ hS2 ?_
        rotate_left
        · intro wz hSw
          (try dsimp only at hSw)
          go_simp
          (try with_reducible rfl)
        (try simp only [Act.put, List.setIfInBounds_toArray, List.set_cons_zero, List.set_cons_succ])
        refine held_call 7 25 rfl (by kernel_rfl) (by rfl) (fun K hK => ?_)
        go_simp
        (refine (ints_same _ _ c _ (HDW.out.below HBB) (HCW.out.below HBB)).mono ?_; rintro e wC ⟨rfl, m2, hwC⟩; have HBC : Below W.heap.size W wC := (by rw [hwC]; exact below_drewN HBB m2); clear hwC)
        go_wp2_with fail
        refine hK.out _ _ ?_ (fun hS3 => ?_)
        · first | with_reducible exact SK.out _ HBD | with_reducible exact SK.out _ HBC | with_reducible exact SK.out _ HBB | with_reducible exact SK.out _ HBA | with_reducible exact SK.out _ HB0
        clear hK K
        refine held_take 8 (some 31) ?_ 24 rfl rfl (by kernel_rfl) (by kernel_rfl) (by kernel_rfl) (fun _ _ _ h => h) (by rfl) ?_ hS3 ?_
        rotate_left
        · intro wz hSw
          (try dsimp only at hSw)
          go_simp
          (try with_reducible rfl)
        (try simp only [Act.put, List.setIfInBounds_toArray, List.set_cons_zero, List.set_cons_succ])
        refine held_take 9 (some 32) ?_ 23 rfl rfl (by kernel_rfl) (by kernel_rfl) (by kernel_rfl) (fun _ _ _ h => h) (by rfl) ?_ hS3 ?_
        rotate_left
        · intro wz hSw
          (try dsimp only at hSw)
          go_simp
          (try with_reducible rfl)
        (try simp only [Act.put, List.setIfInBounds_toArray, List.set_cons_zero, List.set_cons_succ])
        refine held_take 10 (some 33) ?_ 22 rfl rfl (by kernel_rfl) (by kernel_rfl) (by kernel_rfl) (fun _ _ _ h => h) (by rfl) ?_ hS3 ?_
        rotate_left
        · intro wz hSw
          (try dsimp only at hSw)
          go_simp
          (try with_reducible rfl)
        (try simp only [Act.put, List.setIfInBounds_toArray, List.set_cons_zero, List.set_cons_succ])
        refine held_take 12 (some 35) ?_ 21 rfl rfl (by kernel_rfl) (by kernel_rfl) (by kernel_rfl) (fun _ _ _ h => h) (by rfl) ?_ hS3 ?_
        rotate_left
        · intro wz hSw
          (try dsimp only at hSw)
          go_simp
          (try with_reducible rfl)
        (try simp only [Act.put, List.setIfInBounds_toArray, List.set_cons_zero, List.set_cons_succ])
        refine held_call 11 20 rfl (by kernel_rfl) (by rfl) (fun K hK => ?_)
        go_simp
        (refine (taut_any _ _ c _ (HDW.out.below HBC) HLC.out tv HTV).mono ?_; rintro e wD ⟨rfl, hbD⟩; have HBD : Below W.heap.size W wD := HBC.trans (hbD.mono HBC.size))
        go_wp2_with fail
        refine hK.out _ _ ?_ (fun hS4 => ?_)
        · first | with_reducible exact SK.out _ HBD | with_reducible exact SK.out _ HBC | with_reducible exact SK.out _ HBB | with_reducible exact SK.out _ HBA | with_reducible exact SK.out _ HB0
        clear hK K
        refine held_call 13 19 rfl (by kernel_rfl) (by rfl) (fun K hK => ?_)
        go_simp
        (refine (rtaut_any _ _ c _ (HCW.out.below HBD) HLC.out tv HTV).mono ?_; rintro e wE ⟨rfl, rfl⟩)
        go_wp2_with fail
        refine hK.out _ _ ?_ (fun hS5 => ?_)
        · first | with_reducible exact SK.out _ HBD | with_reducible exact SK.out _ HBC | with_reducible exact SK.out _ HBB | with_reducible exact SK.out _ HBA | with_reducible exact SK.out _ HB0
        clear hK K
        refine held_take 14 (some 37) ?_ 18 rfl rfl (by kernel_rfl) (by kernel_rfl) (by kernel_rfl) (fun _ _ _ h => h) (by rfl) ?_ hS5 ?_
        rotate_left
        · intro wz hSw
          (try dsimp only at hSw)
          go_simp
          (try with_reducible rfl)
        (try simp only [Act.put, List.setIfInBounds_toArray, List.set_cons_zero, List.set_cons_succ])
        refine held_take 15 (some 38) ?_ 17 rfl rfl (by kernel_rfl) (by kernel_rfl) (by kernel_rfl) (fun _ _ _ h => h) (by rfl) ?_ hS5 ?_
        rotate_left
        · intro wz hSw
          (try dsimp only at hSw)
          go_simp
          (try with_reducible rfl)
        (try simp only [Act.put, List.setIfInBounds_toArray, List.set_cons_zero, List.set_cons_succ])
        refine held_take 16 (some 39) ?_ 16 rfl rfl (by kernel_rfl) (by kernel_rfl) (by kernel_rfl) (fun _ _ _ h => h) (by rfl) ?_ hS5 ?_
        rotate_left
        · intro wz hSw
          (try dsimp only at hSw)
          go_simp
          (try with_reducible rfl)
        (try simp only [Act.put, List.setIfInBounds_toArray, List.set_cons_zero, List.set_cons_succ])
        refine held_take 17 (some 40) ?_ 15 rfl rfl (by kernel_rfl) (by kernel_rfl) (by kernel_rfl) (fun _ _ _ h => h) (by rfl) ?_ hS5 ?_
        rotate_left
        · intro wz hSw
          (try dsimp only at hSw)
          go_simp
          (try with_reducible rfl)
        (try simp only [Act.put, List.setIfInBounds_toArray, List.set_cons_zero, List.set_cons_succ])
        refine held_take 18 (some 41) ?_ 14 rfl rfl (by kernel_rfl) (by kernel_rfl) (by kernel_rfl) (fun _ _ _ h => h) (by rfl) ?_ hS5 ?_
        rotate_left
        · intro wz hSw
          (try dsimp only at hSw)
          go_simp
          (try with_reducible rfl)
        (try simp only [Act.put, List.setIfInBounds_toArray, List.set_cons_zero, List.set_cons_succ])
        refine held_take 19 (some 42) ?_ 13 rfl rfl (by kernel_rfl) (by kernel_rfl) (by kernel_rfl) (fun _ _ _ h => h) (by rfl) ?_ hS5 ?_
        rotate_left
        · intro wz hSw
          (try dsimp only at hSw)
          go_simp
          (try with_reducible rfl)
        (try simp only [Act.put, List.setIfInBounds_toArray, List.set_cons_zero, List.set_cons_succ])
        refine held_take 20 (some 43) ?_ 12 rfl rfl (by kernel_rfl) (by kernel_rfl) (by kernel_rfl) (fun _ _ _ h => h) (by rfl) ?_ hS5 ?_
        rotate_left
        · intro wz hSw
          (try dsimp only at hSw)
          go_simp
          (try with_reducible rfl)
        (try simp only [Act.put, List.setIfInBounds_toArray, List.set_cons_zero, List.set_cons_succ])
        refine held_take 21 (some 44) ?_ 11 rfl rfl (by kernel_rfl) (by kernel_rfl) (by kernel_rfl) (fun _ _ _ h => h) (by rfl) ?_ hS5 ?_
        rotate_left
        · intro wz hSw
          (try dsimp only at hSw)
          go_simp
          (try with_reducible rfl)
        (try simp only [Act.put, List.setIfInBounds_toArray, List.set_cons_zero, List.set_cons_succ])
        refine held_take 22 (some 45) ?_ 10 rfl rfl (by kernel_rfl) (by kernel_rfl) (by kernel_rfl) (fun _ _ _ h => h) (by rfl) ?_ hS5 ?_
        rotate_left
        · intro wz hSw
          (try dsimp only at hSw)
          go_simp
          (try with_reducible rfl)
        (try simp only [Act.put, List.setIfInBounds_toArray, List.set_cons_zero, List.set_cons_succ])
        refine held_take 23 (some 46) ?_ 9 rfl rfl (by kernel_rfl) (by kernel_rfl) (by kernel_rfl) (fun _ _ _ h => h) (by rfl) ?_ hS5 ?_
        rotate_left
        · intro wz hSw
          (try dsimp only at hSw)
          go_simp
          (try with_reducible rfl)
        (try simp only [Act.put, List.setIfInBounds_toArray, List.set_cons_zero, List.set_cons_succ])
        refine held_take 25 (some 48) ?_ 8 rfl rfl (by kernel_rfl) (by kernel_rfl) (by kernel_rfl) (fun _ _ _ h => h) (by rfl) ?_ hS5 ?_
        rotate_left
        · intro wz hSw
          (try dsimp only at hSw)
          go_simp
          (try with_reducible rfl)
        (try simp only [Act.put, List.setIfInBounds_toArray, List.set_cons_zero, List.set_cons_succ])
        refine held_take 26 (some 49) ?_ 7 rfl rfl (by kernel_rfl) (by kernel_rfl) (by kernel_rfl) (fun _ _ _ h => h) (by rfl) ?_ hS5 ?_
        rotate_left
        · intro wz hSw
          (try dsimp only at hSw)
          go_simp
          (try with_reducible rfl)
        (try simp only [Act.put, List.setIfInBounds_toArray, List.set_cons_zero, List.set_cons_succ])
        refine held_take 27 (some 50) ?_ 6 rfl rfl (by kernel_rfl) (by kernel_rfl) (by kernel_rfl) (fun _ _ _ h => h) (by rfl) ?_ hS5 ?_
        rotate_left
        · intro wz hSw
          (try dsimp only at hSw)
          go_simp
          (try with_reducible rfl)
        (try simp only [Act.put, List.setIfInBounds_toArray, List.set_cons_zero, List.set_cons_succ])
        refine held_call 24 5 rfl (by kernel_rfl) (by rfl) (fun K hK => ?_)
        go_simp
        (refine (var_any x _ (by omega) (by omega)).mono ?_; rintro e wF ⟨rfl, rfl⟩)
        go_wp2_with fail
        refine hK.out _ _ ?_ (fun hS6 => ?_)
        · first | with_reducible exact SK.out _ HBD | with_reducible exact SK.out _ HBC | with_reducible exact SK.out _ HBB | with_reducible exact SK.out _ HBA | with_reducible exact SK.out _ HB0
        clear hK K
        refine held_call 28 4 rfl (by kernel_rfl) (by rfl) (fun K hK => ?_)
        go_simp
        (refine (rvar_any x _ (by omega) (by omega)).mono ?_; rintro e wG ⟨rfl, rfl⟩)
        go_wp2_with fail
        refine hK.out _ _ ?_ (fun hS7 => ?_)
        · first | with_reducible exact SK.out _ HBD | with_reducible exact SK.out _ HBC | with_reducible exact SK.out _ HBB | with_reducible exact SK.out _ HBA | with_reducible exact SK.out _ HB0
        clear hK K
        refine held_take 29 (some 52) ?_ 3 rfl rfl (by kernel_rfl) (by kernel_rfl) (by kernel_rfl) (fun _ _ _ h => h) (by rfl) ?_ hS7 ?_
        rotate_left
        · intro wz hSw
          (try dsimp only at hSw)
          go_simp
          (try with_reducible rfl)
        (try simp only [Act.put, List.setIfInBounds_toArray, List.set_cons_zero, List.set_cons_succ])
        refine held_take 30 (some 53) ?_ 2 rfl rfl (by kernel_rfl) (by kernel_rfl) (by kernel_rfl) (fun _ _ _ h => h) (by rfl) ?_ hS7 ?_
        rotate_left
        · intro wz hSw
          (try dsimp only at hSw)
          go_simp
          (try with_reducible rfl)
        (try simp only [Act.put, List.setIfInBounds_toArray, List.set_cons_zero, List.set_cons_succ])
        refine held_take 31 (some 54) ?_ 1 rfl rfl (by kernel_rfl) (by kernel_rfl) (by kernel_rfl) (fun _ _ _ h => h) (by rfl) ?_ hS7 ?_
        rotate_left
        · intro wz hSw
          (try dsimp only at hSw)
          go_simp
          (try with_reducible rfl)
        (try simp only [Act.put, List.setIfInBounds_toArray, List.set_cons_zero, List.set_cons_succ])
        refine held_take 32 (some 2) ?_ 0 rfl rfl (by kernel_rfl) (by kernel_rfl) (by kernel_rfl) (fun _ _ _ h => h) (by rfl) ?_ hS7 ?_
        rotate_left
        · intro wz hSw
          (try dsimp only at hSw)
          go_simp
          (try with_reducible rfl)
        (try simp only [Act.put, List.setIfInBounds_toArray, List.set_cons_zero, List.set_cons_succ])
        refine wpAnyH_done (by kernel_rfl) ?_ _
        all_goals
          go_wp2_with fail
          go_ret
          exact ⟨rfl, HBW.out.trans (HBD.mono HBW.out.size)⟩
  · have d1 : decide ((60 : Int) < (c.length : Int)) = true := decide_eq_true (by omega)
    have d1' : decide (60 < c.length) = true := decide_eq_true (by omega)
    go_enter Try.func4, Try.ntmps4
    go_wp2_with fail
    refine (resolved_true _).mono ?_
    rintro e w1 ⟨rfl, hb1⟩
    have HB1 := Lib.hid hb1
    clear hb1
    go_wp2_with fail
    refine (resolved_true _).mono ?_
    rintro e w3 ⟨rfl, hb3⟩
    have HB3 := Lib.hid (HB1.out.trans (hb3.mono HB1.out.size))
    clear hb3
    go_wp2_with fail
    go_ret
    exact ⟨rfl, HB3.out⟩
theorem cnfNorms_walk (a0 : Option Addr) (len0 cap0 : Nat) (z0 : List Int) (w : World) (w0 : IsRow .i64 w a0 len0 cap0 z0) :
    Calls Try.prog 4 #[.slice a0 len0 cap0] w fun e w' => e = .returned (.bool true) ∧ Below w.heap.size w w' := by
  obtain ⟨l, h1, h2, _⟩ := ints_arg w0
  subst h2
  exact cnfNorms_list a0 cap0 l w h1
end Go.Proofs.Yteimfcokobdldaa
