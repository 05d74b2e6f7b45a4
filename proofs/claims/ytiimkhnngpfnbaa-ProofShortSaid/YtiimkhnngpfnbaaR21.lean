/- Parts of the proofs, put together: PfT, PfU, PfV, PfW, PfX, PfM. -/
import Derived.Test.YtiimkhnngpfnbaaR20
/- The reference's Right and Count on trees. -/
namespace Go.Proofs.Ytiimkhnngpfnbaa.Fx
open Go.RowKit
set_option linter.unusedVariables false
set_option linter.unusedSimpArgs false
set_option maxRecDepth 100000
def finB (o : Option (List Int)) (cl : List Int) : Bool := match o with | some d => decide (d = cl) | none => false
theorem rightB_zero {all : List (List Int)} {cl fr on : List Int} (h0 : 0 < fr.length) (h1 : on.length = fr.length - 1) : rightB all ⟨cl, fr, on⟩ = if fr[0] < 1 ∨ fr[0] > all.length then false else finB (rgtG all (fr.drop 1) (on.drop 0) (normL (all.getD (fr[0] - 1).toNat []))) cl := by
  unfold rightB
  simp only
  rw [if_neg (by omega)]
  cases fr with
  | nil => simp at h0
  | cons k fr => simp only [List.getElem_cons_zero, List.drop_succ_cons, List.drop_zero]; rfl
theorem rgtG_at {all : List (List Int)} {fr on c : List Int} {i : Nat} (hi : i + 1 < fr.length) (ho : i < on.length) : rgtG all (fr.drop (i + 1)) (on.drop i) c = if fr[i + 1] < 1 ∨ fr[i + 1] > all.length then none else
      match joinR c (all.getD (fr[i + 1] - 1).toNat []) on[i] with | some d => rgtG all (fr.drop (i + 2)) (on.drop (i + 1)) d | none => none := by
  rw [List.drop_eq_getElem_cons hi]
  have e1 : (on.drop i).headD 0 = on[i] := by rw [List.drop_eq_getElem_cons ho]; rfl
  have e2 : (on.drop i).tail = on.drop (i + 1) := by rw [List.tail_drop]
  conv => lhs; unfold rgtG
  rw [e1, e2]
  split
  · rfl
  · cases joinR c (all.getD (fr[i + 1] - 1).toNat []) on[i] <;> rfl
theorem rgtG_end (all : List (List Int)) (fr on c : List Int) (i : Nat) (h : fr.length ≤ i) : rgtG all (fr.drop i) on c = some c := by
  rw [List.drop_eq_nil_of_le h]; unfold rgtG; rfl
theorem joinR_in {A B : List Int} {v : Int} {m M : Nat} (hA : InB m A) (hB : InB M B) {c : List Int} (h : joinR A B v = some c) : InB (m + M) c := by
  unfold joinR at h
  split at h
  · rename_i e
    injection h with h
    have := resP_in (v := v) hA hB
    unfold resP at this
    rw [if_pos e] at this
    rw [← h]; exact this
  · split at h
    · rename_i e
      injection h with h
      have := resP_in (v := v) hB hA
      unfold resP at this
      rw [if_pos e] at this
      rw [← h, Nat.add_comm]; exact this
    · cases h
set_option maxHeartbeats 4000000 in
theorem right_fo (M : Nat) (all : List (List Int)) (s : StepD) (hall : ∀ c ∈ all, InB M c) (hal : all.length ≤ 1000000) (hfr : InR64 s.fr) (hon : ∀ v ∈ s.on, -9223372036854775807 ≤ v ∧ v ≤ 9223372036854775807) (hM : (s.fr.length + 1) * M ≤ 100000) (hf1 : s.fr.length ≤ 1000000) (hf2 : s.on.length ≤ 1000000) (hM1 : M ≤ 1000) (hcl : s.cl.length ≤ 1000000) :
    FxCall Try.prog 23 [.c (.own 1000 all.length), .agg [.t (.s (s.cl.map intR)), .t (.s (s.fr.map intR)), .t (.s (s.on.map intR))]] [(1000, .row 27 1 (all.map intsR))] (.c (.t (.v (.bool (rightB all s))))) [(1000, .row 27 1 (all.map intsR))] := by
  refine fx_call 75 Try.func23 rfl rfl rfl (fun hlen => ?_)
  clear hlen
  have HALL := Lib.hid hall
  have HM := Lib.hid hM
  have HON := Lib.hid hon
  have HFR := Lib.hid hfr
  clear hall hM hon hfr
  obtain ⟨cl, fr, on⟩ := s
  simp only at hf1 hf2 hcl HM HON HFR ⊢
  by_cases h1 : fr.length = 0
  · have e : rightB all ⟨cl, fr, on⟩ = false := by unfold rightB; rw [if_pos (.inl h1)]
    rw [e]
    obtain rfl : fr = [] := List.length_eq_zero_iff.1 h1
    (repeat' (first | refine awp_block ?_ | ((first | refine awp_tk [] (by kernel_rfl) (fun K hK => ?_) | refine awp_dk [] mixed (by kernel_rfl) (by kernel_rfl) (fun K hK => ?_)); go_simp; (repeat (simp (disch := omega) only [dT, dF, nT, nF, wA, wB, wC, wD]; try go_simp)); (repeat (refine ⟨by (repeat' apply And.intro) <;> first | omega | trivial | assumption | decide, ?_⟩)); (first | (refine hK _ ?_; clear hK K) | (clear hK K; refine hK _ ?_; clear hK K) | (clear hK K; clear hK K; refine hK _ ?_; clear hK K) | (clear hK K; clear hK K; clear hK K; refine hK _ ?_; clear hK K))) | refine awp_ct rfl ?_ | refine awp_cf rfl ?_ | (first | (refine awp_skip (hK _ ?_); clear hK K) | (clear hK K; refine awp_skip (hK _ ?_); clear hK K) | (clear hK K; clear hK K; refine awp_skip (hK _ ?_); clear hK K) | (clear hK K; clear hK K; clear hK K; refine awp_skip (hK _ ?_); clear hK K)) | refine awp_seqk (fun K hK => ?_) | ((first | refine awp_t [] (by kernel_rfl) ?_ | refine awp_d [] mixed (by kernel_rfl) (by kernel_rfl) ?_); go_simp; (repeat (simp (disch := omega) only [dT, dF, nT, nF, wA, wB, wC, wD]; try go_simp)); (repeat (refine ⟨by (repeat' apply And.intro) <;> first | omega | trivial | assumption | decide, ?_⟩))) | (first | (refine hK _ ?_; clear hK K) | (clear hK K; refine hK _ ?_; clear hK K) | (clear hK K; clear hK K; refine hK _ ?_; clear hK K) | (clear hK K; clear hK K; clear hK K; refine hK _ ?_; clear hK K)) | (refine awp_exit ?_; simp only [thenA_exit, inBlk_exit, thenA_normal, inBlk_normal, ↓reduceIte, Nat.reduceEqDiff])))
    exact awp_ret ⟨_, (by repeat' (first | exact .nil | exact .tmp _ _ rfl | apply ResL.cons)), (by repeat' (first | exact Coe.refl _ | exact Coe.c CoeC.nil | exact Coe.c CoeC.z | exact .nil | apply Coe.tup | apply CoeA.cons)), rfl, (by repeat' (first | exact List.forall_mem_nil _ | (refine List.forall_mem_cons.2 ⟨rfl, ?_⟩))), rfl, (by repeat' (first | exact trivial | (intro h; first | rfl | (exfalso; omega)) | apply And.intro))⟩
  by_cases h2 : on.length ≠ fr.length - 1
  · have e : rightB all ⟨cl, fr, on⟩ = false := by unfold rightB; rw [if_pos (.inr h2)]
    rw [e]
    (repeat' (first | refine awp_block ?_ | ((first | refine awp_tk [] (by kernel_rfl) (fun K hK => ?_) | refine awp_dk [] mixed (by kernel_rfl) (by kernel_rfl) (fun K hK => ?_)); go_simp; (repeat (simp (disch := omega) only [dT, dF, nT, nF, wA, wB, wC, wD]; try go_simp)); (repeat (refine ⟨by (repeat' apply And.intro) <;> first | omega | trivial | assumption | decide, ?_⟩)); (first | (refine hK _ ?_; clear hK K) | (clear hK K; refine hK _ ?_; clear hK K) | (clear hK K; clear hK K; refine hK _ ?_; clear hK K) | (clear hK K; clear hK K; clear hK K; refine hK _ ?_; clear hK K))) | refine awp_ct rfl ?_ | refine awp_cf rfl ?_ | (first | (refine awp_skip (hK _ ?_); clear hK K) | (clear hK K; refine awp_skip (hK _ ?_); clear hK K) | (clear hK K; clear hK K; refine awp_skip (hK _ ?_); clear hK K) | (clear hK K; clear hK K; clear hK K; refine awp_skip (hK _ ?_); clear hK K)) | refine awp_seqk (fun K hK => ?_) | ((first | refine awp_t [] (by kernel_rfl) ?_ | refine awp_d [] mixed (by kernel_rfl) (by kernel_rfl) ?_); go_simp; (repeat (simp (disch := omega) only [dT, dF, nT, nF, wA, wB, wC, wD]; try go_simp)); (repeat (refine ⟨by (repeat' apply And.intro) <;> first | omega | trivial | assumption | decide, ?_⟩))) | (first | (refine hK _ ?_; clear hK K) | (clear hK K; refine hK _ ?_; clear hK K) | (clear hK K; clear hK K; refine hK _ ?_; clear hK K) | (clear hK K; clear hK K; clear hK K; refine hK _ ?_; clear hK K)) | (refine awp_exit ?_; simp only [thenA_exit, inBlk_exit, thenA_normal, inBlk_normal, ↓reduceIte, Nat.reduceEqDiff])))
    exact awp_ret ⟨_, (by repeat' (first | exact .nil | exact .tmp _ _ rfl | apply ResL.cons)), (by repeat' (first | exact Coe.refl _ | exact Coe.c CoeC.nil | exact Coe.c CoeC.z | exact .nil | apply Coe.tup | apply CoeA.cons)), rfl, (by repeat' (first | exact List.forall_mem_nil _ | (refine List.forall_mem_cons.2 ⟨rfl, ?_⟩))), rfl, (by repeat' (first | exact trivial | (intro h; first | rfl | (exfalso; omega)) | apply And.intro))⟩
  have h0 : 0 < fr.length := by omega
  have HZ := Lib.hid (rightB_zero (all := all) (cl := cl) (on := on) h0 (by omega))
  (repeat' (first | refine awp_block ?_ | ((first | refine awp_tk [] (by kernel_rfl) (fun K hK => ?_) | refine awp_dk [] mixed (by kernel_rfl) (by kernel_rfl) (fun K hK => ?_)); go_simp; (repeat (simp (disch := omega) only [dT, dF, nT, nF, wA, wB, wC, wD]; try go_simp)); (repeat (refine ⟨by (repeat' apply And.intro) <;> first | omega | trivial | assumption | decide, ?_⟩)); (first | (refine hK _ ?_; clear hK K) | (clear hK K; refine hK _ ?_; clear hK K) | (clear hK K; clear hK K; refine hK _ ?_; clear hK K) | (clear hK K; clear hK K; clear hK K; refine hK _ ?_; clear hK K))) | refine awp_ct rfl ?_ | refine awp_cf rfl ?_ | (first | (refine awp_skip (hK _ ?_); clear hK K) | (clear hK K; refine awp_skip (hK _ ?_); clear hK K) | (clear hK K; clear hK K; refine awp_skip (hK _ ?_); clear hK K) | (clear hK K; clear hK K; clear hK K; refine awp_skip (hK _ ?_); clear hK K)) | refine awp_seqk (fun K hK => ?_) | ((first | refine awp_t [] (by kernel_rfl) ?_ | refine awp_d [] mixed (by kernel_rfl) (by kernel_rfl) ?_); go_simp; (repeat (simp (disch := omega) only [dT, dF, nT, nF, wA, wB, wC, wD]; try go_simp)); (repeat (refine ⟨by (repeat' apply And.intro) <;> first | omega | trivial | assumption | decide, ?_⟩))) | (first | (refine hK _ ?_; clear hK K) | (clear hK K; refine hK _ ?_; clear hK K) | (clear hK K; clear hK K; refine hK _ ?_; clear hK K) | (clear hK K; clear hK K; clear hK K; refine hK _ ?_; clear hK K)) | (refine awp_exit ?_; simp only [thenA_exit, inBlk_exit, thenA_normal, inBlk_normal, ↓reduceIte, Nat.reduceEqDiff])))
  refine awp_lp (fun s => ∃ i : Nat, ∃ c : List Int, i ≤ fr.length ∧ (i = 0 → c = []) ∧ (∀ j, i = j + 1 → rightB all ⟨cl, fr, on⟩ = finB (rgtG all (fr.drop (j + 1)) (on.drop j) c) cl) ∧ InB (i * M) c ∧ s = ⟨[(0, .c (.own 1000 all.length)), (3, .c (.ptr 3 0)), (5, .c (.t (.s (c.map intR)))), (6, .c (.t (.v (.int .i64 i))))], [(3, .var 43 [.t (.s (cl.map intR)), .t (.s (fr.map intR)), .t (.s (on.map intR))]), (1000, .row 27 1 (all.map intsR))]⟩) (fun s => fr.length - nat 6 s) _ ?_ ⟨0, [], Nat.zero_le _, fun _ => rfl, fun j h => (by omega), ⟨Nat.zero_le _, fun x hx => (by cases hx)⟩, rfl⟩ ?_
  · refine weak_w (by repeat' (first | exact trivial | exact Coe.refl _ | exact Coe.c CoeC.nil | apply And.intro)) (by repeat' (first | exact trivial | rfl | apply And.intro)) rfl rfl (by repeat' (first | exact trivial | (intro h; first | rfl | (exfalso; omega)) | apply And.intro))
  · rintro s R ⟨i, c, hi, hc0, hc1, hcb, rfl⟩ hR
    have HC := Lib.hid hc1
    have HCB := Lib.hid hcb
    clear hc1 hcb
    by_cases hlt : i < fr.length
    · have hkr := HFR.out fr[i] (List.getElem_mem hlt)
      obtain ⟨k, hk⟩ : ∃ k, fr[i] = k := ⟨_, rfl⟩
      rw [hk] at hkr
      by_cases k1 : k < 1
      · have HE : Hid (rightB all ⟨cl, fr, on⟩ = false) := Lib.hid (by
          rcases Nat.eq_zero_or_pos i with h | h
          · subst h; rw [HZ.out, if_pos (.inl (by rw [hk]; exact k1))]
          · obtain ⟨j, rfl⟩ : ∃ j, i = j + 1 := ⟨i - 1, by omega⟩
            rw [HC.out j rfl, rgtG_at hlt (by omega), if_pos (.inl (by rw [hk]; exact k1))]; rfl)
        rw [HE.out]
        (repeat' (first | refine awp_block ?_ | ((first | refine awp_tk [] (by kernel_rfl) (fun K hK => ?_) | refine awp_dk [] mixed (by kernel_rfl) (by kernel_rfl) (fun K hK => ?_)); go_simp; (repeat (simp (disch := omega) only [dT, dF, nT, nF, wA, wB, wC, wD]; try go_simp)); (repeat (refine ⟨by (repeat' apply And.intro) <;> first | omega | trivial | assumption | decide, ?_⟩)); (first | (refine hK _ ?_; clear hK K) | (clear hK K; refine hK _ ?_; clear hK K) | (clear hK K; clear hK K; refine hK _ ?_; clear hK K) | (clear hK K; clear hK K; clear hK K; refine hK _ ?_; clear hK K))) | refine awp_ct rfl ?_ | refine awp_cf rfl ?_ | (first | (refine awp_skip (hK _ ?_); clear hK K) | (clear hK K; refine awp_skip (hK _ ?_); clear hK K) | (clear hK K; clear hK K; refine awp_skip (hK _ ?_); clear hK K) | (clear hK K; clear hK K; clear hK K; refine awp_skip (hK _ ?_); clear hK K)) | refine awp_seqk (fun K hK => ?_) | ((first | refine awp_t [] (by kernel_rfl) ?_ | refine awp_d [] mixed (by kernel_rfl) (by kernel_rfl) ?_); go_simp; (repeat (simp (disch := omega) only [dT, dF, nT, nF, wA, wB, wC, wD]; try go_simp)); (repeat (refine ⟨by (repeat' apply And.intro) <;> first | omega | trivial | assumption | decide, ?_⟩))) | (first | (refine hK _ ?_; clear hK K) | (clear hK K; refine hK _ ?_; clear hK K) | (clear hK K; clear hK K; refine hK _ ?_; clear hK K) | (clear hK K; clear hK K; clear hK K; refine hK _ ?_; clear hK K)) | (refine awp_exit ?_; simp only [thenA_exit, inBlk_exit, thenA_normal, inBlk_normal, ↓reduceIte, Nat.reduceEqDiff])))
        exact awp_ret ⟨_, (by repeat' (first | exact .nil | exact .tmp _ _ rfl | apply ResL.cons)), (by repeat' (first | exact Coe.refl _ | exact Coe.c CoeC.nil | exact Coe.c CoeC.z | exact .nil | apply Coe.tup | apply CoeA.cons)), rfl, (by repeat' (first | exact List.forall_mem_nil _ | (refine List.forall_mem_cons.2 ⟨rfl, ?_⟩))), rfl, (by repeat' (first | exact trivial | (intro h; first | rfl | (exfalso; omega)) | apply And.intro))⟩
      by_cases k2 : k > all.length
      · have HE : Hid (rightB all ⟨cl, fr, on⟩ = false) := Lib.hid (by
          rcases Nat.eq_zero_or_pos i with h | h
          · subst h; rw [HZ.out, if_pos (.inr (by rw [hk]; exact k2))]
          · obtain ⟨j, rfl⟩ : ∃ j, i = j + 1 := ⟨i - 1, by omega⟩
            rw [HC.out j rfl, rgtG_at hlt (by omega), if_pos (.inr (by rw [hk]; exact k2))]; rfl)
        rw [HE.out]
        (repeat' (first | refine awp_block ?_ | ((first | refine awp_tk [] (by kernel_rfl) (fun K hK => ?_) | refine awp_dk [] mixed (by kernel_rfl) (by kernel_rfl) (fun K hK => ?_)); go_simp; (repeat (simp (disch := omega) only [dT, dF, nT, nF, wA, wB, wC, wD]; try go_simp)); (repeat (refine ⟨by (repeat' apply And.intro) <;> first | omega | trivial | assumption | decide, ?_⟩)); (first | (refine hK _ ?_; clear hK K) | (clear hK K; refine hK _ ?_; clear hK K) | (clear hK K; clear hK K; refine hK _ ?_; clear hK K) | (clear hK K; clear hK K; clear hK K; refine hK _ ?_; clear hK K))) | refine awp_ct rfl ?_ | refine awp_cf rfl ?_ | (first | (refine awp_skip (hK _ ?_); clear hK K) | (clear hK K; refine awp_skip (hK _ ?_); clear hK K) | (clear hK K; clear hK K; refine awp_skip (hK _ ?_); clear hK K) | (clear hK K; clear hK K; clear hK K; refine awp_skip (hK _ ?_); clear hK K)) | refine awp_seqk (fun K hK => ?_) | ((first | refine awp_t [] (by kernel_rfl) ?_ | refine awp_d [] mixed (by kernel_rfl) (by kernel_rfl) ?_); go_simp; (repeat (simp (disch := omega) only [dT, dF, nT, nF, wA, wB, wC, wD]; try go_simp)); (repeat (refine ⟨by (repeat' apply And.intro) <;> first | omega | trivial | assumption | decide, ?_⟩))) | (first | (refine hK _ ?_; clear hK K) | (clear hK K; refine hK _ ?_; clear hK K) | (clear hK K; clear hK K; refine hK _ ?_; clear hK K) | (clear hK K; clear hK K; clear hK K; refine hK _ ?_; clear hK K)) | (refine awp_exit ?_; simp only [thenA_exit, inBlk_exit, thenA_normal, inBlk_normal, ↓reduceIte, Nat.reduceEqDiff])))
        exact awp_ret ⟨_, (by repeat' (first | exact .nil | exact .tmp _ _ rfl | apply ResL.cons)), (by repeat' (first | exact Coe.refl _ | exact Coe.c CoeC.nil | exact Coe.c CoeC.z | exact .nil | apply Coe.tup | apply CoeA.cons)), rfl, (by repeat' (first | exact List.forall_mem_nil _ | (refine List.forall_mem_cons.2 ⟨rfl, ?_⟩))), rfl, (by repeat' (first | exact trivial | (intro h; first | rfl | (exfalso; omega)) | apply And.intro))⟩
      obtain ⟨m, rfl⟩ : ∃ m : Nat, k = (m : Int) + 1 := ⟨(k - 1).toNat, by omega⟩
      have em : ((m : Int) + 1 - 1).toNat = m := by omega
      have hk3 : m < all.length := by omega
      have hin := HALL.out all[m] (List.getElem_mem hk3)
      have hge : all.getD ((m : Int) + 1 - 1).toNat [] = all[m] := by rw [em, List.getD_eq_getElem?_getD, List.getElem?_eq_getElem hk3]; rfl
      obtain ⟨B, hB⟩ : ∃ B, all[m] = B := ⟨_, rfl⟩
      rw [hB] at hin hge
      have HIN := Lib.hid hin
      have HGE := Lib.hid hge
      have HIL : Hid (InL B) := Lib.hid ⟨by have := HIN.out.1; omega, HIN.out.2⟩
      clear hin hge
      rcases Nat.eq_zero_or_pos i with h | h
      · subst h
        (repeat' (first | refine awp_block ?_ | ((first | refine awp_tk [] (by kernel_rfl) (fun K hK => ?_) | refine awp_dk [] mixed (by kernel_rfl) (by kernel_rfl) (fun K hK => ?_)); go_simp; (repeat (simp (disch := omega) only [dT, dF, nT, nF, wA, wB, wC, wD]; try go_simp)); (repeat (refine ⟨by (repeat' apply And.intro) <;> first | omega | trivial | assumption | decide, ?_⟩)); (first | (refine hK _ ?_; clear hK K) | (clear hK K; refine hK _ ?_; clear hK K) | (clear hK K; clear hK K; refine hK _ ?_; clear hK K) | (clear hK K; clear hK K; clear hK K; refine hK _ ?_; clear hK K))) | refine awp_ct rfl ?_ | refine awp_cf rfl ?_ | (first | (refine awp_skip (hK _ ?_); clear hK K) | (clear hK K; refine awp_skip (hK _ ?_); clear hK K) | (clear hK K; clear hK K; refine awp_skip (hK _ ?_); clear hK K) | (clear hK K; clear hK K; clear hK K; refine awp_skip (hK _ ?_); clear hK K)) | refine awp_seqk (fun K hK => ?_) | ((first | refine awp_t [] (by kernel_rfl) ?_ | refine awp_d [] mixed (by kernel_rfl) (by kernel_rfl) ?_); go_simp; (repeat (simp (disch := omega) only [dT, dF, nT, nF, wA, wB, wC, wD]; try go_simp)); (repeat (refine ⟨by (repeat' apply And.intro) <;> first | omega | trivial | assumption | decide, ?_⟩))) | (first | (refine hK _ ?_; clear hK K) | (clear hK K; refine hK _ ?_; clear hK K) | (clear hK K; clear hK K; refine hK _ ?_; clear hK K) | (clear hK K; clear hK K; clear hK K; refine hK _ ?_; clear hK K)) | (refine awp_exit ?_; simp only [thenA_exit, inBlk_exit, thenA_normal, inBlk_normal, ↓reduceIte, Nat.reduceEqDiff])))
        refine callV (rnorm_fx B (by have := HIL.out.1; omega) HIL.out.big) rfl ?_
        go_simp
        (repeat (simp (disch := omega) only [dT, dF, nT, nF, wA, wB, wC, wD]; try go_simp))
        (repeat (refine ⟨by (repeat' apply And.intro) <;> first | omega | trivial | assumption | decide, ?_⟩))
        (repeat' (first | refine awp_block ?_ | ((first | refine awp_tk [] (by kernel_rfl) (fun K hK => ?_) | refine awp_dk [] mixed (by kernel_rfl) (by kernel_rfl) (fun K hK => ?_)); go_simp; (repeat (simp (disch := omega) only [dT, dF, nT, nF, wA, wB, wC, wD]; try go_simp)); (repeat (refine ⟨by (repeat' apply And.intro) <;> first | omega | trivial | assumption | decide, ?_⟩)); (first | (refine hK _ ?_; clear hK K) | (clear hK K; refine hK _ ?_; clear hK K) | (clear hK K; clear hK K; refine hK _ ?_; clear hK K) | (clear hK K; clear hK K; clear hK K; refine hK _ ?_; clear hK K))) | refine awp_ct rfl ?_ | refine awp_cf rfl ?_ | (first | (refine awp_skip (hK _ ?_); clear hK K) | (clear hK K; refine awp_skip (hK _ ?_); clear hK K) | (clear hK K; clear hK K; refine awp_skip (hK _ ?_); clear hK K) | (clear hK K; clear hK K; clear hK K; refine awp_skip (hK _ ?_); clear hK K)) | refine awp_seqk (fun K hK => ?_) | ((first | refine awp_t [] (by kernel_rfl) ?_ | refine awp_d [] mixed (by kernel_rfl) (by kernel_rfl) ?_); go_simp; (repeat (simp (disch := omega) only [dT, dF, nT, nF, wA, wB, wC, wD]; try go_simp)); (repeat (refine ⟨by (repeat' apply And.intro) <;> first | omega | trivial | assumption | decide, ?_⟩))) | (first | (refine hK _ ?_; clear hK K) | (clear hK K; refine hK _ ?_; clear hK K) | (clear hK K; clear hK K; refine hK _ ?_; clear hK K) | (clear hK K; clear hK K; clear hK K; refine hK _ ?_; clear hK K)) | (refine awp_exit ?_; simp only [thenA_exit, inBlk_exit, thenA_normal, inBlk_normal, ↓reduceIte, Nat.reduceEqDiff])))
        refine hR _ _ ?_ ⟨1, normL B, by omega, fun h => (by omega), fun j hj => ?_, ?_, rfl⟩ ?_
        · refine weak_w (by repeat' (first | exact trivial | exact Coe.refl _ | exact Coe.c CoeC.nil | apply And.intro)) (by repeat' (first | exact trivial | rfl | apply And.intro)) rfl rfl (by repeat' (first | exact trivial | (intro h; first | rfl | (exfalso; omega)) | apply And.intro))
        · obtain rfl : j = 0 := by omega
          rw [HZ.out, if_neg (by rw [hk]; omega), hk, HGE.out]
        · exact ⟨by have := normL_len B; have := HIN.out.1; omega, lits_norm HIN.out.2⟩
        · simp [nat, sget]; omega
      · obtain ⟨j, rfl⟩ : ∃ j, i = j + 1 := ⟨i - 1, by omega⟩
        have hj : j < on.length := by omega
        have hv := HON.out on[j] (List.getElem_mem hj)
        obtain ⟨v, hvv⟩ : ∃ v, on[j] = v := ⟨_, rfl⟩
        rw [hvv] at hv
        have HV := Lib.hid hv
        have HST := Lib.hid (HC.out j rfl)
        have HG := Lib.hid (rgtG_at (all := all) (fr := fr) (on := on) (c := c) hlt hj)
        have HL : Hid (InL c) := Lib.hid ⟨by
          have h1 := HCB.out.1
          have h2 := HM.out
          have h3 : (j + 1) * M ≤ (fr.length + 1) * M := Nat.mul_le_mul_right _ (by omega)
          omega, HCB.out.2⟩
        clear hv
        cases hjn : joinR c B v with
        | some d =>
          have HJ := Lib.hid hjn
          (repeat' (first | refine awp_block ?_ | ((first | refine awp_tk [] (by kernel_rfl) (fun K hK => ?_) | refine awp_dk [] mixed (by kernel_rfl) (by kernel_rfl) (fun K hK => ?_)); go_simp; (repeat (simp (disch := omega) only [dT, dF, nT, nF, wA, wB, wC, wD]; try go_simp)); (repeat (refine ⟨by (repeat' apply And.intro) <;> first | omega | trivial | assumption | decide, ?_⟩)); (first | (refine hK _ ?_; clear hK K) | (clear hK K; refine hK _ ?_; clear hK K) | (clear hK K; clear hK K; refine hK _ ?_; clear hK K) | (clear hK K; clear hK K; clear hK K; refine hK _ ?_; clear hK K))) | refine awp_ct rfl ?_ | refine awp_cf rfl ?_ | (first | (refine awp_skip (hK _ ?_); clear hK K) | (clear hK K; refine awp_skip (hK _ ?_); clear hK K) | (clear hK K; clear hK K; refine awp_skip (hK _ ?_); clear hK K) | (clear hK K; clear hK K; clear hK K; refine awp_skip (hK _ ?_); clear hK K)) | refine awp_seqk (fun K hK => ?_) | ((first | refine awp_t [] (by kernel_rfl) ?_ | refine awp_d [] mixed (by kernel_rfl) (by kernel_rfl) ?_); go_simp; (repeat (simp (disch := omega) only [dT, dF, nT, nF, wA, wB, wC, wD]; try go_simp)); (repeat (refine ⟨by (repeat' apply And.intro) <;> first | omega | trivial | assumption | decide, ?_⟩))) | (first | (refine hK _ ?_; clear hK K) | (clear hK K; refine hK _ ?_; clear hK K) | (clear hK K; clear hK K; refine hK _ ?_; clear hK K) | (clear hK K; clear hK K; clear hK K; refine hK _ ?_; clear hK K)) | (refine awp_exit ?_; simp only [thenA_exit, inBlk_exit, thenA_normal, inBlk_normal, ↓reduceIte, Nat.reduceEqDiff])))
          refine callV (rjoin_fx c B v HL.out HIL.out HV.out) rfl ?_
          go_simp
          (repeat (simp (disch := omega) only [dT, dF, nT, nF, wA, wB, wC, wD]; try go_simp))
          (repeat (refine ⟨by (repeat' apply And.intro) <;> first | omega | trivial | assumption | decide, ?_⟩))
          (repeat' (first | refine awp_block ?_ | ((first | refine awp_tk [] (by kernel_rfl) (fun K hK => ?_) | refine awp_dk [] mixed (by kernel_rfl) (by kernel_rfl) (fun K hK => ?_)); go_simp; (repeat (simp (disch := omega) only [dT, dF, nT, nF, wA, wB, wC, wD]; try go_simp)); (repeat (refine ⟨by (repeat' apply And.intro) <;> first | omega | trivial | assumption | decide, ?_⟩)); (first | (refine hK _ ?_; clear hK K) | (clear hK K; refine hK _ ?_; clear hK K) | (clear hK K; clear hK K; refine hK _ ?_; clear hK K) | (clear hK K; clear hK K; clear hK K; refine hK _ ?_; clear hK K))) | refine awp_ct rfl ?_ | refine awp_cf rfl ?_ | (first | (refine awp_skip (hK _ ?_); clear hK K) | (clear hK K; refine awp_skip (hK _ ?_); clear hK K) | (clear hK K; clear hK K; refine awp_skip (hK _ ?_); clear hK K) | (clear hK K; clear hK K; clear hK K; refine awp_skip (hK _ ?_); clear hK K)) | refine awp_seqk (fun K hK => ?_) | ((first | refine awp_t [] (by kernel_rfl) ?_ | refine awp_d [] mixed (by kernel_rfl) (by kernel_rfl) ?_); go_simp; (repeat (simp (disch := omega) only [dT, dF, nT, nF, wA, wB, wC, wD]; try go_simp)); (repeat (refine ⟨by (repeat' apply And.intro) <;> first | omega | trivial | assumption | decide, ?_⟩))) | (first | (refine hK _ ?_; clear hK K) | (clear hK K; refine hK _ ?_; clear hK K) | (clear hK K; clear hK K; refine hK _ ?_; clear hK K) | (clear hK K; clear hK K; clear hK K; refine hK _ ?_; clear hK K)) | (refine awp_exit ?_; simp only [thenA_exit, inBlk_exit, thenA_normal, inBlk_normal, ↓reduceIte, Nat.reduceEqDiff])))
          refine hR _ _ ?_ ⟨j + 2, d, by omega, fun h => (by omega), fun q hq => ?_, ?_, rfl⟩ ?_
          · refine weak_w (by repeat' (first | exact trivial | exact Coe.refl _ | exact Coe.c CoeC.nil | apply And.intro)) (by repeat' (first | exact trivial | rfl | apply And.intro)) rfl rfl (by repeat' (first | exact trivial | (intro h; first | rfl | (exfalso; omega)) | apply And.intro))
          · obtain rfl : q = j + 1 := by omega
            rw [HST.out, HG.out, if_neg (by rw [hk]; omega), hk, HGE.out, hvv, HJ.out]
          · have h1 := joinR_in HCB.out HIN.out HJ.out
            have e1 : (j + 2) * M = (j + 1) * M + M := by rw [Nat.add_mul (j + 1) 1 M, Nat.one_mul]
            rw [e1]; exact h1
          · simp [nat, sget]; omega
        | none =>
          have HE : Hid (rightB all ⟨cl, fr, on⟩ = false) := Lib.hid (by rw [HST.out, HG.out, if_neg (by rw [hk]; omega), hk, HGE.out, hvv, hjn]; rfl)
          (repeat' (first | refine awp_block ?_ | ((first | refine awp_tk [] (by kernel_rfl) (fun K hK => ?_) | refine awp_dk [] mixed (by kernel_rfl) (by kernel_rfl) (fun K hK => ?_)); go_simp; (repeat (simp (disch := omega) only [dT, dF, nT, nF, wA, wB, wC, wD]; try go_simp)); (repeat (refine ⟨by (repeat' apply And.intro) <;> first | omega | trivial | assumption | decide, ?_⟩)); (first | (refine hK _ ?_; clear hK K) | (clear hK K; refine hK _ ?_; clear hK K) | (clear hK K; clear hK K; refine hK _ ?_; clear hK K) | (clear hK K; clear hK K; clear hK K; refine hK _ ?_; clear hK K))) | refine awp_ct rfl ?_ | refine awp_cf rfl ?_ | (first | (refine awp_skip (hK _ ?_); clear hK K) | (clear hK K; refine awp_skip (hK _ ?_); clear hK K) | (clear hK K; clear hK K; refine awp_skip (hK _ ?_); clear hK K) | (clear hK K; clear hK K; clear hK K; refine awp_skip (hK _ ?_); clear hK K)) | refine awp_seqk (fun K hK => ?_) | ((first | refine awp_t [] (by kernel_rfl) ?_ | refine awp_d [] mixed (by kernel_rfl) (by kernel_rfl) ?_); go_simp; (repeat (simp (disch := omega) only [dT, dF, nT, nF, wA, wB, wC, wD]; try go_simp)); (repeat (refine ⟨by (repeat' apply And.intro) <;> first | omega | trivial | assumption | decide, ?_⟩))) | (first | (refine hK _ ?_; clear hK K) | (clear hK K; refine hK _ ?_; clear hK K) | (clear hK K; clear hK K; refine hK _ ?_; clear hK K) | (clear hK K; clear hK K; clear hK K; refine hK _ ?_; clear hK K)) | (refine awp_exit ?_; simp only [thenA_exit, inBlk_exit, thenA_normal, inBlk_normal, ↓reduceIte, Nat.reduceEqDiff])))
          refine callV (rjoin_fx c B v HL.out HIL.out HV.out) rfl ?_
          go_simp
          (repeat (simp (disch := omega) only [dT, dF, nT, nF, wA, wB, wC, wD]; try go_simp))
          (repeat (refine ⟨by (repeat' apply And.intro) <;> first | omega | trivial | assumption | decide, ?_⟩))
          (repeat' (first | refine awp_block ?_ | ((first | refine awp_tk [] (by kernel_rfl) (fun K hK => ?_) | refine awp_dk [] mixed (by kernel_rfl) (by kernel_rfl) (fun K hK => ?_)); go_simp; (repeat (simp (disch := omega) only [dT, dF, nT, nF, wA, wB, wC, wD]; try go_simp)); (repeat (refine ⟨by (repeat' apply And.intro) <;> first | omega | trivial | assumption | decide, ?_⟩)); (first | (refine hK _ ?_; clear hK K) | (clear hK K; refine hK _ ?_; clear hK K) | (clear hK K; clear hK K; refine hK _ ?_; clear hK K) | (clear hK K; clear hK K; clear hK K; refine hK _ ?_; clear hK K))) | refine awp_ct rfl ?_ | refine awp_cf rfl ?_ | (first | (refine awp_skip (hK _ ?_); clear hK K) | (clear hK K; refine awp_skip (hK _ ?_); clear hK K) | (clear hK K; clear hK K; refine awp_skip (hK _ ?_); clear hK K) | (clear hK K; clear hK K; clear hK K; refine awp_skip (hK _ ?_); clear hK K)) | refine awp_seqk (fun K hK => ?_) | ((first | refine awp_t [] (by kernel_rfl) ?_ | refine awp_d [] mixed (by kernel_rfl) (by kernel_rfl) ?_); go_simp; (repeat (simp (disch := omega) only [dT, dF, nT, nF, wA, wB, wC, wD]; try go_simp)); (repeat (refine ⟨by (repeat' apply And.intro) <;> first | omega | trivial | assumption | decide, ?_⟩))) | (first | (refine hK _ ?_; clear hK K) | (clear hK K; refine hK _ ?_; clear hK K) | (clear hK K; clear hK K; refine hK _ ?_; clear hK K) | (clear hK K; clear hK K; clear hK K; refine hK _ ?_; clear hK K)) | (refine awp_exit ?_; simp only [thenA_exit, inBlk_exit, thenA_normal, inBlk_normal, ↓reduceIte, Nat.reduceEqDiff])))
          rw [HE.out]
          exact awp_ret ⟨_, (by repeat' (first | exact .nil | exact .tmp _ _ rfl | apply ResL.cons)), (by repeat' (first | exact Coe.refl _ | exact Coe.c CoeC.nil | exact Coe.c CoeC.z | exact .nil | apply Coe.tup | apply CoeA.cons)), rfl, (by repeat' (first | exact List.forall_mem_nil _ | (refine List.forall_mem_cons.2 ⟨rfl, ?_⟩))), rfl, (by repeat' (first | exact trivial | (intro h; first | rfl | (exfalso; omega)) | apply And.intro))⟩
    · have hi2 : i = fr.length := by omega
      subst hi2
      obtain ⟨j, hj⟩ : ∃ j, fr.length = j + 1 := ⟨fr.length - 1, by omega⟩
      have HE : Hid (rightB all ⟨cl, fr, on⟩ = decide (c = cl)) := Lib.hid (by rw [HC.out j hj, rgtG_end _ _ _ _ _ (by omega)]; rfl)
      have HCL : Hid (c.length ≤ 1000000) := Lib.hid (by
        have h1 := HCB.out.1
        have h2 := HM.out
        have h3 : fr.length * M ≤ (fr.length + 1) * M := Nat.mul_le_mul_right _ (by omega)
        omega)
      clear hj
      (repeat' (first | refine awp_block ?_ | ((first | refine awp_tk [] (by kernel_rfl) (fun K hK => ?_) | refine awp_dk [] mixed (by kernel_rfl) (by kernel_rfl) (fun K hK => ?_)); go_simp; (repeat (simp (disch := omega) only [dT, dF, nT, nF, wA, wB, wC, wD]; try go_simp)); (repeat (refine ⟨by (repeat' apply And.intro) <;> first | omega | trivial | assumption | decide, ?_⟩)); (first | (refine hK _ ?_; clear hK K) | (clear hK K; refine hK _ ?_; clear hK K) | (clear hK K; clear hK K; refine hK _ ?_; clear hK K) | (clear hK K; clear hK K; clear hK K; refine hK _ ?_; clear hK K))) | refine awp_ct rfl ?_ | refine awp_cf rfl ?_ | (first | (refine awp_skip (hK _ ?_); clear hK K) | (clear hK K; refine awp_skip (hK _ ?_); clear hK K) | (clear hK K; clear hK K; refine awp_skip (hK _ ?_); clear hK K) | (clear hK K; clear hK K; clear hK K; refine awp_skip (hK _ ?_); clear hK K)) | refine awp_seqk (fun K hK => ?_) | ((first | refine awp_t [] (by kernel_rfl) ?_ | refine awp_d [] mixed (by kernel_rfl) (by kernel_rfl) ?_); go_simp; (repeat (simp (disch := omega) only [dT, dF, nT, nF, wA, wB, wC, wD]; try go_simp)); (repeat (refine ⟨by (repeat' apply And.intro) <;> first | omega | trivial | assumption | decide, ?_⟩))) | (first | (refine hK _ ?_; clear hK K) | (clear hK K; refine hK _ ?_; clear hK K) | (clear hK K; clear hK K; refine hK _ ?_; clear hK K) | (clear hK K; clear hK K; clear hK K; refine hK _ ?_; clear hK K)) | (refine awp_exit ?_; simp only [thenA_exit, inBlk_exit, thenA_normal, inBlk_normal, ↓reduceIte, Nat.reduceEqDiff])))
      refine callV (ints_fx c cl HCL.out hcl) rfl ?_
      go_simp
      (repeat (simp (disch := omega) only [dT, dF, nT, nF, wA, wB, wC, wD]; try go_simp))
      (repeat (refine ⟨by (repeat' apply And.intro) <;> first | omega | trivial | assumption | decide, ?_⟩))
      (repeat' (first | refine awp_block ?_ | ((first | refine awp_tk [] (by kernel_rfl) (fun K hK => ?_) | refine awp_dk [] mixed (by kernel_rfl) (by kernel_rfl) (fun K hK => ?_)); go_simp; (repeat (simp (disch := omega) only [dT, dF, nT, nF, wA, wB, wC, wD]; try go_simp)); (repeat (refine ⟨by (repeat' apply And.intro) <;> first | omega | trivial | assumption | decide, ?_⟩)); (first | (refine hK _ ?_; clear hK K) | (clear hK K; refine hK _ ?_; clear hK K) | (clear hK K; clear hK K; refine hK _ ?_; clear hK K) | (clear hK K; clear hK K; clear hK K; refine hK _ ?_; clear hK K))) | refine awp_ct rfl ?_ | refine awp_cf rfl ?_ | (first | (refine awp_skip (hK _ ?_); clear hK K) | (clear hK K; refine awp_skip (hK _ ?_); clear hK K) | (clear hK K; clear hK K; refine awp_skip (hK _ ?_); clear hK K) | (clear hK K; clear hK K; clear hK K; refine awp_skip (hK _ ?_); clear hK K)) | refine awp_seqk (fun K hK => ?_) | ((first | refine awp_t [] (by kernel_rfl) ?_ | refine awp_d [] mixed (by kernel_rfl) (by kernel_rfl) ?_); go_simp; (repeat (simp (disch := omega) only [dT, dF, nT, nF, wA, wB, wC, wD]; try go_simp)); (repeat (refine ⟨by (repeat' apply And.intro) <;> first | omega | trivial | assumption | decide, ?_⟩))) | (first | (refine hK _ ?_; clear hK K) | (clear hK K; refine hK _ ?_; clear hK K) | (clear hK K; clear hK K; refine hK _ ?_; clear hK K) | (clear hK K; clear hK K; clear hK K; refine hK _ ?_; clear hK K)) | (refine awp_exit ?_; simp only [thenA_exit, inBlk_exit, thenA_normal, inBlk_normal, ↓reduceIte, Nat.reduceEqDiff])))
      rw [HE.out]
      exact awp_ret ⟨_, (by repeat' (first | exact .nil | exact .tmp _ _ rfl | apply ResL.cons)), (by repeat' (first | exact Coe.refl _ | exact Coe.c CoeC.nil | exact Coe.c CoeC.z | exact .nil | apply Coe.tup | apply CoeA.cons)), rfl, (by repeat' (first | exact List.forall_mem_nil _ | (refine List.forall_mem_cons.2 ⟨rfl, ?_⟩))), rfl, (by repeat' (first | exact trivial | (intro h; first | rfl | (exfalso; omega)) | apply And.intro))⟩
theorem countV_take {all : List (List Int)} : ∀ {S : List StepD} {k : Nat}, (∀ i, i < k → rightB (all ++ (S.take i).map (·.cl)) (S.getD i default) = true) → k < S.length → rightB (all ++ (S.take k).map (·.cl)) (S.getD k default) = false → countV all S = k := by
  intro S
  induction S generalizing all with
  | nil => intro k _ h; simp at h
  | cons x t ih =>
    intro k h hk hf
    cases k with
    | zero =>
      have : rightB all x = false := by simpa using hf
      unfold countV; rw [this]; rfl
    | succ k =>
      have h0 : rightB all x = true := by simpa using h 0 (by omega)
      unfold countV
      rw [if_pos h0]
      have := ih (all := all ++ [x.cl]) (k := k) (fun i hi => by have := h (i + 1) (by omega); simpa using this) (by simpa using hk) (by simpa using hf)
      omega
theorem countV_full {all : List (List Int)} : ∀ {S : List StepD}, (∀ i, i < S.length → rightB (all ++ (S.take i).map (·.cl)) (S.getD i default) = true) → countV all S = S.length := by
  intro S
  induction S generalizing all with
  | nil => intro _; rfl
  | cons x t ih =>
    intro h
    have h0 : rightB all x = true := by simpa using h 0 (by simp)
    unfold countV
    rw [if_pos h0]
    have := ih (all := all ++ [x.cl]) (fun i hi => by have := h (i + 1) (by simpa using hi); simpa using this)
    simp; omega
/-- a step that may be looked at -/
def StepOk (M : Nat) (s : StepD) : Prop := InB M s.cl ∧ InR64 s.fr ∧ (∀ v ∈ s.on, -9223372036854775807 ≤ v ∧ v ≤ 9223372036854775807) ∧ (s.fr.length + 1) * M ≤ 100000 ∧ s.fr.length ≤ 1000000 ∧ s.on.length ≤ 1000000
set_option maxHeartbeats 2000000 in
theorem count_fx (M : Nat) (l : List (List Int)) (S : List StepD) (hl : ∀ c ∈ l, InB M c) (hS : ∀ s ∈ S, StepOk M s) (hn : l.length ≤ 100000) (hm : S.length ≤ 100000) (hM1 : M ≤ 1000) :
    FxPure Try.prog 16 [.c (.t (.s (l.map intsR))), .c (.t (.s (S.map stepR)))] (.c (.t (.v (.int .i64 (countV l S : Nat))))) := by
  refine fx_pure 34 Try.func16 rfl rfl rfl rfl (fun hlen => ?_)
  clear hlen
  have HL := Lib.hid hl
  have HS := Lib.hid hS
  have hl1 := map_len intsR 1 (fun _ => rfl) l
  clear hl hS
  (repeat' (first | refine awp_block ?_ | ((first | refine awp_tk [] (by kernel_rfl) (fun K hK => ?_) | refine awp_dk [] mixed (by kernel_rfl) (by kernel_rfl) (fun K hK => ?_)); go_simp; (repeat (simp (disch := omega) only [dT, dF, nT, nF, wA, wB, wC, wD]; try go_simp)); (repeat (refine ⟨by (repeat' apply And.intro) <;> first | omega | trivial | assumption | decide, ?_⟩)); (first | (refine hK _ ?_; clear hK K) | (clear hK K; refine hK _ ?_; clear hK K) | (clear hK K; clear hK K; refine hK _ ?_; clear hK K) | (clear hK K; clear hK K; clear hK K; refine hK _ ?_; clear hK K))) | refine awp_ct rfl ?_ | refine awp_cf rfl ?_ | (first | (refine awp_skip (hK _ ?_); clear hK K) | (clear hK K; refine awp_skip (hK _ ?_); clear hK K) | (clear hK K; clear hK K; refine awp_skip (hK _ ?_); clear hK K) | (clear hK K; clear hK K; clear hK K; refine awp_skip (hK _ ?_); clear hK K)) | refine awp_seqk (fun K hK => ?_) | ((first | refine awp_t [] (by kernel_rfl) ?_ | refine awp_d [] mixed (by kernel_rfl) (by kernel_rfl) ?_); go_simp; (repeat (simp (disch := omega) only [dT, dF, nT, nF, wA, wB, wC, wD]; try go_simp)); (repeat (refine ⟨by (repeat' apply And.intro) <;> first | omega | trivial | assumption | decide, ?_⟩))) | (first | (refine hK _ ?_; clear hK K) | (clear hK K; refine hK _ ?_; clear hK K) | (clear hK K; clear hK K; refine hK _ ?_; clear hK K) | (clear hK K; clear hK K; clear hK K; refine hK _ ?_; clear hK K)) | (refine awp_exit ?_; simp only [thenA_exit, inBlk_exit, thenA_normal, inBlk_normal, ↓reduceIte, Nat.reduceEqDiff])))
  clear hl1
  refine awp_lp (fun s => ∃ k : Nat, ∃ D : List (List Int), k ≤ S.length ∧ D = l ++ (S.take k).map (·.cl) ∧ (∀ i, i < k → rightB (l ++ (S.take i).map (·.cl)) (S.getD i default) = true) ∧ s = ⟨[(1, .c (.t (.s (S.map stepR)))), (5, .c (.own 9 D.length)), (6, .c (.t (.v (.int .i64 k))))], [(9, .row 27 1 (D.map intsR))]⟩) (fun s => S.length - nat 6 s) _ ?_ ⟨0, l, Nat.zero_le _, by simp, fun i h => (by omega), rfl⟩ ?_
  · refine weak_w (by repeat' (first | exact trivial | exact Coe.refl _ | exact Coe.c CoeC.nil | apply And.intro)) (by repeat' (first | exact trivial | rfl | apply And.intro)) rfl rfl (by repeat' (first | exact trivial | (intro h; first | rfl | (exfalso; omega)) | apply And.intro))
  · rintro s R ⟨k, D, hk, hD, hr, rfl⟩ hR
    have HD := Lib.hid hD
    have HR := Lib.hid hr
    have hdl : D.length ≤ 200000 := by rw [hD, List.length_append, List.length_map, List.length_take]; omega
    clear hD hr
    by_cases hlt : k < S.length
    · have hg : S.getD k default = S[k] := by rw [List.getD_eq_getElem?_getD, List.getElem?_eq_getElem hlt]; rfl
      have hok := HS.out S[k] (List.getElem_mem hlt)
      have HTK : Hid ((S.take (k + 1)).map (·.cl) = (S.take k).map (·.cl) ++ [S[k].cl]) := Lib.hid (by rw [List.take_succ_eq_append_getElem hlt, List.map_append]; rfl)
      obtain ⟨x, hx⟩ : ∃ x, S[k] = x := ⟨_, rfl⟩
      rw [hx] at hg hok HTK
      have HG := Lib.hid hg
      have HOK := Lib.hid hok
      have HDA : Hid (∀ c ∈ D, InB M c) := Lib.hid (by
        intro c hc
        rw [HD.out, List.mem_append, List.mem_map] at hc
        rcases hc with hc | ⟨y, hy, rfl⟩
        · exact HL.out c hc
        · exact (HS.out y (List.mem_of_mem_take hy)).1)
      clear hg hok
      have hxl := HOK.out.1.1
      have hxn := map_len intR 1 (fun _ => rfl) x.cl
      cases hb : rightB D x with
      | true =>
        (repeat' (first | refine awp_block ?_ | ((first | refine awp_tk [21] (by kernel_rfl) (fun K hK => ?_) | refine awp_dk [21] mixed (by kernel_rfl) (by kernel_rfl) (fun K hK => ?_)); go_simp; (repeat (simp (disch := omega) only [dT, dF, nT, nF, wA, wB, wC, wD]; try go_simp)); (repeat (refine ⟨by (repeat' apply And.intro) <;> first | omega | trivial | assumption | decide, ?_⟩)); (first | (refine hK _ ?_; clear hK K) | (clear hK K; refine hK _ ?_; clear hK K) | (clear hK K; clear hK K; refine hK _ ?_; clear hK K) | (clear hK K; clear hK K; clear hK K; refine hK _ ?_; clear hK K))) | refine awp_ct rfl ?_ | refine awp_cf rfl ?_ | (first | (refine awp_skip (hK _ ?_); clear hK K) | (clear hK K; refine awp_skip (hK _ ?_); clear hK K) | (clear hK K; clear hK K; refine awp_skip (hK _ ?_); clear hK K) | (clear hK K; clear hK K; clear hK K; refine awp_skip (hK _ ?_); clear hK K)) | refine awp_seqk (fun K hK => ?_) | ((first | refine awp_t [21] (by kernel_rfl) ?_ | refine awp_d [21] mixed (by kernel_rfl) (by kernel_rfl) ?_); go_simp; (repeat (simp (disch := omega) only [dT, dF, nT, nF, wA, wB, wC, wD]; try go_simp)); (repeat (refine ⟨by (repeat' apply And.intro) <;> first | omega | trivial | assumption | decide, ?_⟩))) | (first | (refine hK _ ?_; clear hK K) | (clear hK K; refine hK _ ?_; clear hK K) | (clear hK K; clear hK K; refine hK _ ?_; clear hK K) | (clear hK K; clear hK K; clear hK K; refine hK _ ?_; clear hK K)) | (refine awp_exit ?_; simp only [thenA_exit, inBlk_exit, thenA_normal, inBlk_normal, ↓reduceIte, Nat.reduceEqDiff])))
        refine callG [(1000, 9)] (right_fo M D x HDA.out (by omega) HOK.out.2.1 HOK.out.2.2.1 HOK.out.2.2.2.1 HOK.out.2.2.2.2.1 HOK.out.2.2.2.2.2 hM1 (by omega)) rfl (by simp only [renAL, renAV, renC, renL, lk, ↓reduceIte, Nat.reduceEqDiff]; repeat' (first | exact .nil | exact Coe.refl _ | exact Coe.c CoeC.nil | exact Coe.c CoeC.z | apply CoeA.cons)) rfl (by repeat' (first | exact trivial | rfl | apply And.intro)) rfl rfl (by repeat' (first | exact trivial | rfl | exact .inl rfl | exact .inr rfl | apply And.intro)) ?_
        go_simp
        (repeat (simp (disch := omega) only [dT, dF, nT, nF, wA, wB, wC, wD]; try go_simp))
        (repeat (refine ⟨by (repeat' apply And.intro) <;> first | omega | trivial | assumption | decide, ?_⟩))
        (repeat' (first | refine awp_block ?_ | ((first | refine awp_tk [] (by kernel_rfl) (fun K hK => ?_) | refine awp_dk [] mixed (by kernel_rfl) (by kernel_rfl) (fun K hK => ?_)); go_simp; (repeat (simp (disch := omega) only [dT, dF, nT, nF, wA, wB, wC, wD]; try go_simp)); (repeat (refine ⟨by (repeat' apply And.intro) <;> first | omega | trivial | assumption | decide, ?_⟩)); (first | (refine hK _ ?_; clear hK K) | (clear hK K; refine hK _ ?_; clear hK K) | (clear hK K; clear hK K; refine hK _ ?_; clear hK K) | (clear hK K; clear hK K; clear hK K; refine hK _ ?_; clear hK K))) | refine awp_ct rfl ?_ | refine awp_cf rfl ?_ | (first | (refine awp_skip (hK _ ?_); clear hK K) | (clear hK K; refine awp_skip (hK _ ?_); clear hK K) | (clear hK K; clear hK K; refine awp_skip (hK _ ?_); clear hK K) | (clear hK K; clear hK K; clear hK K; refine awp_skip (hK _ ?_); clear hK K)) | refine awp_seqk (fun K hK => ?_) | ((first | refine awp_t [] (by kernel_rfl) ?_ | refine awp_d [] mixed (by kernel_rfl) (by kernel_rfl) ?_); go_simp; (repeat (simp (disch := omega) only [dT, dF, nT, nF, wA, wB, wC, wD]; try go_simp)); (repeat (refine ⟨by (repeat' apply And.intro) <;> first | omega | trivial | assumption | decide, ?_⟩))) | (first | (refine hK _ ?_; clear hK K) | (clear hK K; refine hK _ ?_; clear hK K) | (clear hK K; clear hK K; refine hK _ ?_; clear hK K) | (clear hK K; clear hK K; clear hK K; refine hK _ ?_; clear hK K)) | (refine awp_exit ?_; simp only [thenA_exit, inBlk_exit, thenA_normal, inBlk_normal, ↓reduceIte, Nat.reduceEqDiff])))
        refine hR _ _ ?_ ⟨k + 1, D ++ [x.cl], by omega, by rw [HTK.out, HD.out, List.append_assoc], fun i hi => ?_, rfl⟩ ?_
        · simp only [List.length_append, List.length_singleton, List.map_append, List.map_cons, List.map_nil, intsR]
          refine weak_w (by repeat' (first | exact trivial | exact Coe.refl _ | exact Coe.c CoeC.nil | apply And.intro)) (by repeat' (first | exact trivial | rfl | apply And.intro)) rfl rfl (by repeat' (first | exact trivial | (intro h; first | rfl | (exfalso; omega)) | apply And.intro))
        · rcases Nat.lt_succ_iff_lt_or_eq.1 hi with h | rfl
          · exact HR.out i h
          · rw [HG.out, ← HD.out]; exact hb
        · simp [nat, sget]; omega
      | false =>
        have HE : Hid (countV l S = k) := Lib.hid (countV_take HR.out hlt (by rw [HG.out, ← HD.out]; exact hb))
        (repeat' (first | refine awp_block ?_ | ((first | refine awp_tk [21] (by kernel_rfl) (fun K hK => ?_) | refine awp_dk [21] mixed (by kernel_rfl) (by kernel_rfl) (fun K hK => ?_)); go_simp; (repeat (simp (disch := omega) only [dT, dF, nT, nF, wA, wB, wC, wD]; try go_simp)); (repeat (refine ⟨by (repeat' apply And.intro) <;> first | omega | trivial | assumption | decide, ?_⟩)); (first | (refine hK _ ?_; clear hK K) | (clear hK K; refine hK _ ?_; clear hK K) | (clear hK K; clear hK K; refine hK _ ?_; clear hK K) | (clear hK K; clear hK K; clear hK K; refine hK _ ?_; clear hK K))) | refine awp_ct rfl ?_ | refine awp_cf rfl ?_ | (first | (refine awp_skip (hK _ ?_); clear hK K) | (clear hK K; refine awp_skip (hK _ ?_); clear hK K) | (clear hK K; clear hK K; refine awp_skip (hK _ ?_); clear hK K) | (clear hK K; clear hK K; clear hK K; refine awp_skip (hK _ ?_); clear hK K)) | refine awp_seqk (fun K hK => ?_) | ((first | refine awp_t [21] (by kernel_rfl) ?_ | refine awp_d [21] mixed (by kernel_rfl) (by kernel_rfl) ?_); go_simp; (repeat (simp (disch := omega) only [dT, dF, nT, nF, wA, wB, wC, wD]; try go_simp)); (repeat (refine ⟨by (repeat' apply And.intro) <;> first | omega | trivial | assumption | decide, ?_⟩))) | (first | (refine hK _ ?_; clear hK K) | (clear hK K; refine hK _ ?_; clear hK K) | (clear hK K; clear hK K; refine hK _ ?_; clear hK K) | (clear hK K; clear hK K; clear hK K; refine hK _ ?_; clear hK K)) | (refine awp_exit ?_; simp only [thenA_exit, inBlk_exit, thenA_normal, inBlk_normal, ↓reduceIte, Nat.reduceEqDiff])))
        refine callG [(1000, 9)] (right_fo M D x HDA.out (by omega) HOK.out.2.1 HOK.out.2.2.1 HOK.out.2.2.2.1 HOK.out.2.2.2.2.1 HOK.out.2.2.2.2.2 hM1 (by omega)) rfl (by simp only [renAL, renAV, renC, renL, lk, ↓reduceIte, Nat.reduceEqDiff]; repeat' (first | exact .nil | exact Coe.refl _ | exact Coe.c CoeC.nil | exact Coe.c CoeC.z | apply CoeA.cons)) rfl (by repeat' (first | exact trivial | rfl | apply And.intro)) rfl rfl (by repeat' (first | exact trivial | rfl | exact .inl rfl | exact .inr rfl | apply And.intro)) ?_
        go_simp
        (repeat (simp (disch := omega) only [dT, dF, nT, nF, wA, wB, wC, wD]; try go_simp))
        (repeat (refine ⟨by (repeat' apply And.intro) <;> first | omega | trivial | assumption | decide, ?_⟩))
        (repeat' (first | refine awp_block ?_ | ((first | refine awp_tk [] (by kernel_rfl) (fun K hK => ?_) | refine awp_dk [] mixed (by kernel_rfl) (by kernel_rfl) (fun K hK => ?_)); go_simp; (repeat (simp (disch := omega) only [dT, dF, nT, nF, wA, wB, wC, wD]; try go_simp)); (repeat (refine ⟨by (repeat' apply And.intro) <;> first | omega | trivial | assumption | decide, ?_⟩)); (first | (refine hK _ ?_; clear hK K) | (clear hK K; refine hK _ ?_; clear hK K) | (clear hK K; clear hK K; refine hK _ ?_; clear hK K) | (clear hK K; clear hK K; clear hK K; refine hK _ ?_; clear hK K))) | refine awp_ct rfl ?_ | refine awp_cf rfl ?_ | (first | (refine awp_skip (hK _ ?_); clear hK K) | (clear hK K; refine awp_skip (hK _ ?_); clear hK K) | (clear hK K; clear hK K; refine awp_skip (hK _ ?_); clear hK K) | (clear hK K; clear hK K; clear hK K; refine awp_skip (hK _ ?_); clear hK K)) | refine awp_seqk (fun K hK => ?_) | ((first | refine awp_t [] (by kernel_rfl) ?_ | refine awp_d [] mixed (by kernel_rfl) (by kernel_rfl) ?_); go_simp; (repeat (simp (disch := omega) only [dT, dF, nT, nF, wA, wB, wC, wD]; try go_simp)); (repeat (refine ⟨by (repeat' apply And.intro) <;> first | omega | trivial | assumption | decide, ?_⟩))) | (first | (refine hK _ ?_; clear hK K) | (clear hK K; refine hK _ ?_; clear hK K) | (clear hK K; clear hK K; refine hK _ ?_; clear hK K) | (clear hK K; clear hK K; clear hK K; refine hK _ ?_; clear hK K)) | (refine awp_exit ?_; simp only [thenA_exit, inBlk_exit, thenA_normal, inBlk_normal, ↓reduceIte, Nat.reduceEqDiff])))
        rw [HE.out]
        exact awp_ret ⟨_, (by repeat' (first | exact .nil | exact .tmp _ _ rfl | apply ResL.cons)), (by repeat' (first | exact Coe.refl _ | exact Coe.c CoeC.nil | exact Coe.c CoeC.z | exact .nil | apply Coe.tup | apply CoeA.cons)), rfl⟩
    · have HE : Hid (countV l S = S.length) := Lib.hid (countV_full (fun i hi => HR.out i (by omega)))
      (repeat' (first | refine awp_block ?_ | ((first | refine awp_tk [] (by kernel_rfl) (fun K hK => ?_) | refine awp_dk [] mixed (by kernel_rfl) (by kernel_rfl) (fun K hK => ?_)); go_simp; (repeat (simp (disch := omega) only [dT, dF, nT, nF, wA, wB, wC, wD]; try go_simp)); (repeat (refine ⟨by (repeat' apply And.intro) <;> first | omega | trivial | assumption | decide, ?_⟩)); (first | (refine hK _ ?_; clear hK K) | (clear hK K; refine hK _ ?_; clear hK K) | (clear hK K; clear hK K; refine hK _ ?_; clear hK K) | (clear hK K; clear hK K; clear hK K; refine hK _ ?_; clear hK K))) | refine awp_ct rfl ?_ | refine awp_cf rfl ?_ | (first | (refine awp_skip (hK _ ?_); clear hK K) | (clear hK K; refine awp_skip (hK _ ?_); clear hK K) | (clear hK K; clear hK K; refine awp_skip (hK _ ?_); clear hK K) | (clear hK K; clear hK K; clear hK K; refine awp_skip (hK _ ?_); clear hK K)) | refine awp_seqk (fun K hK => ?_) | ((first | refine awp_t [] (by kernel_rfl) ?_ | refine awp_d [] mixed (by kernel_rfl) (by kernel_rfl) ?_); go_simp; (repeat (simp (disch := omega) only [dT, dF, nT, nF, wA, wB, wC, wD]; try go_simp)); (repeat (refine ⟨by (repeat' apply And.intro) <;> first | omega | trivial | assumption | decide, ?_⟩))) | (first | (refine hK _ ?_; clear hK K) | (clear hK K; refine hK _ ?_; clear hK K) | (clear hK K; clear hK K; refine hK _ ?_; clear hK K) | (clear hK K; clear hK K; clear hK K; refine hK _ ?_; clear hK K)) | (refine awp_exit ?_; simp only [thenA_exit, inBlk_exit, thenA_normal, inBlk_normal, ↓reduceIte, Nat.reduceEqDiff])))
      rw [HE.out]
      exact awp_ret ⟨_, (by repeat' (first | exact .nil | exact .tmp _ _ rfl | apply ResL.cons)), (by repeat' (first | exact Coe.refl _ | exact Coe.c CoeC.nil | exact Coe.c CoeC.z | exact .nil | apply Coe.tup | apply CoeA.cons)), rfl⟩
end Go.Proofs.Ytiimkhnngpfnbaa.Fx
/- few, the reference's Check, back, Same, Clone on trees. -/
namespace Go.Proofs.Ytiimkhnngpfnbaa.Fx
open Go.RowKit
set_option linter.unusedVariables false
set_option linter.unusedSimpArgs false
set_option maxRecDepth 100000
theorem getD_lt {α : Type} [Inhabited α] {l : List α} {k : Nat} (h : k < l.length) (d : α) : l.getD k d = l[k] := by rw [List.getD_eq_getElem?_getD, List.getElem?_eq_getElem h]; rfl
set_option maxHeartbeats 2000000 in
theorem few_fx (l : List (List Int)) (S : List StepD) : FxPure Try.prog 6 [.c (.t (.s (l.map intsR))), .c (.t (.s (S.map stepR)))] (.c (.t (.v (.bool (fewS l S))))) := by
  refine fx_pure 58 Try.func6 rfl rfl rfl rfl (fun hlen => ?_)
  have hl1 : l.length ≤ 9223372036854775807 := by
    have := hlen _ List.mem_cons_self
    cases this with
    | s _ h _ => rw [List.length_map] at h; unfold maxLen at h; omega
  have hs1 : S.length ≤ 9223372036854775807 := by
    have := hlen _ (List.mem_cons_of_mem _ List.mem_cons_self)
    cases this with
    | s _ h _ => rw [List.length_map] at h; unfold maxLen at h; omega
  clear hlen
  have HF : Hid (fewS l S = (decide (l.length ≤ 40) && decide (S.length ≤ 40) && l.all (fun c => decide (c.length ≤ 12)) && S.all (fun x => decide (x.cl.length ≤ 20 ∧ x.fr.length ≤ 20 ∧ x.on.length ≤ 20)))) := Lib.hid rfl
  by_cases h1 : 40 < l.length
  · have e : fewS l S = false := by rw [HF.out, decide_eq_false (show ¬ l.length ≤ 40 by omega)]; rfl
    rw [e]
    (repeat' (first | refine awp_block ?_ | ((first | refine awp_tk [] (by kernel_rfl) (fun K hK => ?_) | refine awp_dk [] mixed (by kernel_rfl) (by kernel_rfl) (fun K hK => ?_)); go_simp; (repeat (simp (disch := omega) only [dT, dF, nT, nF, wA, wB, wC, wD]; try go_simp)); (repeat (refine ⟨by (repeat' apply And.intro) <;> first | omega | trivial | assumption | decide, ?_⟩)); (first | (refine hK _ ?_; clear hK K) | (clear hK K; refine hK _ ?_; clear hK K) | (clear hK K; clear hK K; refine hK _ ?_; clear hK K) | (clear hK K; clear hK K; clear hK K; refine hK _ ?_; clear hK K))) | refine awp_ct rfl ?_ | refine awp_cf rfl ?_ | (first | (refine awp_skip (hK _ ?_); clear hK K) | (clear hK K; refine awp_skip (hK _ ?_); clear hK K) | (clear hK K; clear hK K; refine awp_skip (hK _ ?_); clear hK K) | (clear hK K; clear hK K; clear hK K; refine awp_skip (hK _ ?_); clear hK K)) | refine awp_seqk (fun K hK => ?_) | ((first | refine awp_t [] (by kernel_rfl) ?_ | refine awp_d [] mixed (by kernel_rfl) (by kernel_rfl) ?_); go_simp; (repeat (simp (disch := omega) only [dT, dF, nT, nF, wA, wB, wC, wD]; try go_simp)); (repeat (refine ⟨by (repeat' apply And.intro) <;> first | omega | trivial | assumption | decide, ?_⟩))) | (first | (refine hK _ ?_; clear hK K) | (clear hK K; refine hK _ ?_; clear hK K) | (clear hK K; clear hK K; refine hK _ ?_; clear hK K) | (clear hK K; clear hK K; clear hK K; refine hK _ ?_; clear hK K)) | (refine awp_exit ?_; simp only [thenA_exit, inBlk_exit, thenA_normal, inBlk_normal, ↓reduceIte, Nat.reduceEqDiff])))
    exact awp_ret ⟨_, (by repeat' (first | exact .nil | exact .tmp _ _ rfl | apply ResL.cons)), (by repeat' (first | exact Coe.refl _ | exact Coe.c CoeC.nil | exact Coe.c CoeC.z | exact .nil | apply Coe.tup | apply CoeA.cons)), rfl⟩
  by_cases h2 : 40 < S.length
  · have e : fewS l S = false := by rw [HF.out, decide_eq_false (show ¬ S.length ≤ 40 by omega), Bool.and_false]; rfl
    rw [e]
    (repeat' (first | refine awp_block ?_ | ((first | refine awp_tk [] (by kernel_rfl) (fun K hK => ?_) | refine awp_dk [] mixed (by kernel_rfl) (by kernel_rfl) (fun K hK => ?_)); go_simp; (repeat (simp (disch := omega) only [dT, dF, nT, nF, wA, wB, wC, wD]; try go_simp)); (repeat (refine ⟨by (repeat' apply And.intro) <;> first | omega | trivial | assumption | decide, ?_⟩)); (first | (refine hK _ ?_; clear hK K) | (clear hK K; refine hK _ ?_; clear hK K) | (clear hK K; clear hK K; refine hK _ ?_; clear hK K) | (clear hK K; clear hK K; clear hK K; refine hK _ ?_; clear hK K))) | refine awp_ct rfl ?_ | refine awp_cf rfl ?_ | (first | (refine awp_skip (hK _ ?_); clear hK K) | (clear hK K; refine awp_skip (hK _ ?_); clear hK K) | (clear hK K; clear hK K; refine awp_skip (hK _ ?_); clear hK K) | (clear hK K; clear hK K; clear hK K; refine awp_skip (hK _ ?_); clear hK K)) | refine awp_seqk (fun K hK => ?_) | ((first | refine awp_t [] (by kernel_rfl) ?_ | refine awp_d [] mixed (by kernel_rfl) (by kernel_rfl) ?_); go_simp; (repeat (simp (disch := omega) only [dT, dF, nT, nF, wA, wB, wC, wD]; try go_simp)); (repeat (refine ⟨by (repeat' apply And.intro) <;> first | omega | trivial | assumption | decide, ?_⟩))) | (first | (refine hK _ ?_; clear hK K) | (clear hK K; refine hK _ ?_; clear hK K) | (clear hK K; clear hK K; refine hK _ ?_; clear hK K) | (clear hK K; clear hK K; clear hK K; refine hK _ ?_; clear hK K)) | (refine awp_exit ?_; simp only [thenA_exit, inBlk_exit, thenA_normal, inBlk_normal, ↓reduceIte, Nat.reduceEqDiff])))
    exact awp_ret ⟨_, (by repeat' (first | exact .nil | exact .tmp _ _ rfl | apply ResL.cons)), (by repeat' (first | exact Coe.refl _ | exact Coe.c CoeC.nil | exact Coe.c CoeC.z | exact .nil | apply Coe.tup | apply CoeA.cons)), rfl⟩
  have HF2 : Hid (fewS l S = (l.all (fun c => decide (c.length ≤ 12)) && S.all (fun x => decide (x.cl.length ≤ 20 ∧ x.fr.length ≤ 20 ∧ x.on.length ≤ 20)))) := Lib.hid (by rw [HF.out, decide_eq_true (show l.length ≤ 40 by omega), decide_eq_true (show S.length ≤ 40 by omega)]; rfl)
  (repeat' (first | refine awp_block ?_ | ((first | refine awp_tk [] (by kernel_rfl) (fun K hK => ?_) | refine awp_dk [] mixed (by kernel_rfl) (by kernel_rfl) (fun K hK => ?_)); go_simp; (repeat (simp (disch := omega) only [dT, dF, nT, nF, wA, wB, wC, wD]; try go_simp)); (repeat (refine ⟨by (repeat' apply And.intro) <;> first | omega | trivial | assumption | decide, ?_⟩)); (first | (refine hK _ ?_; clear hK K) | (clear hK K; refine hK _ ?_; clear hK K) | (clear hK K; clear hK K; refine hK _ ?_; clear hK K) | (clear hK K; clear hK K; clear hK K; refine hK _ ?_; clear hK K))) | refine awp_ct rfl ?_ | refine awp_cf rfl ?_ | (first | (refine awp_skip (hK _ ?_); clear hK K) | (clear hK K; refine awp_skip (hK _ ?_); clear hK K) | (clear hK K; clear hK K; refine awp_skip (hK _ ?_); clear hK K) | (clear hK K; clear hK K; clear hK K; refine awp_skip (hK _ ?_); clear hK K)) | refine awp_seqk (fun K hK => ?_) | ((first | refine awp_t [] (by kernel_rfl) ?_ | refine awp_d [] mixed (by kernel_rfl) (by kernel_rfl) ?_); go_simp; (repeat (simp (disch := omega) only [dT, dF, nT, nF, wA, wB, wC, wD]; try go_simp)); (repeat (refine ⟨by (repeat' apply And.intro) <;> first | omega | trivial | assumption | decide, ?_⟩))) | (first | (refine hK _ ?_; clear hK K) | (clear hK K; refine hK _ ?_; clear hK K) | (clear hK K; clear hK K; refine hK _ ?_; clear hK K) | (clear hK K; clear hK K; clear hK K; refine hK _ ?_; clear hK K)) | (refine awp_exit ?_; simp only [thenA_exit, inBlk_exit, thenA_normal, inBlk_normal, ↓reduceIte, Nat.reduceEqDiff])))
  refine awp_lp (fun s => ∃ k : Nat, k ≤ l.length ∧ (∀ i, i < k → (l.getD i []).length ≤ 12) ∧ s = ⟨[(0, .c (.t (.s (l.map intsR)))), (1, .c (.t (.s (S.map stepR)))), (5, .c (.t (.v (.int .i64 k))))], []⟩) (fun s => l.length - nat 5 s) _ ?_ ⟨0, Nat.zero_le _, fun i h => (by omega), rfl⟩ ?_
  · refine weak_w (by repeat' (first | exact trivial | exact Coe.refl _ | exact Coe.c CoeC.nil | apply And.intro)) (by repeat' (first | exact trivial | rfl | apply And.intro)) rfl rfl (by repeat' (first | exact trivial | (intro h; first | rfl | (exfalso; omega)) | apply And.intro))
  · rintro s R ⟨k, hk, hall, rfl⟩ hR
    have HALL := Lib.hid hall
    clear hall
    by_cases hlt : k < l.length
    · have HG := Lib.hid (getD_lt hlt [])
      obtain ⟨c, hc⟩ : ∃ c, l[k] = c := ⟨_, rfl⟩
      have HCC := Lib.hid hc
      by_cases hx : 12 < c.length
      · have e : fewS l S = false := by
          rw [HF2.out, Bool.and_eq_false_iff]
          left
          rw [List.all_eq_false]
          exact ⟨l[k], List.getElem_mem hlt, by rw [HCC.out]; simp; omega⟩
        (repeat' (first | refine awp_block ?_ | ((first | refine awp_tk [] (by kernel_rfl) (fun K hK => ?_) | refine awp_dk [] mixed (by kernel_rfl) (by kernel_rfl) (fun K hK => ?_)); go_simp; (repeat (simp (disch := omega) only [dT, dF, nT, nF, wA, wB, wC, wD]; try go_simp)); (repeat (refine ⟨by (repeat' apply And.intro) <;> first | omega | trivial | assumption | decide, ?_⟩)); (first | (refine hK _ ?_; clear hK K) | (clear hK K; refine hK _ ?_; clear hK K) | (clear hK K; clear hK K; refine hK _ ?_; clear hK K) | (clear hK K; clear hK K; clear hK K; refine hK _ ?_; clear hK K))) | refine awp_ct rfl ?_ | refine awp_cf rfl ?_ | (first | (refine awp_skip (hK _ ?_); clear hK K) | (clear hK K; refine awp_skip (hK _ ?_); clear hK K) | (clear hK K; clear hK K; refine awp_skip (hK _ ?_); clear hK K) | (clear hK K; clear hK K; clear hK K; refine awp_skip (hK _ ?_); clear hK K)) | refine awp_seqk (fun K hK => ?_) | ((first | refine awp_t [] (by kernel_rfl) ?_ | refine awp_d [] mixed (by kernel_rfl) (by kernel_rfl) ?_); go_simp; (repeat (simp (disch := omega) only [dT, dF, nT, nF, wA, wB, wC, wD]; try go_simp)); (repeat (refine ⟨by (repeat' apply And.intro) <;> first | omega | trivial | assumption | decide, ?_⟩))) | (first | (refine hK _ ?_; clear hK K) | (clear hK K; refine hK _ ?_; clear hK K) | (clear hK K; clear hK K; refine hK _ ?_; clear hK K) | (clear hK K; clear hK K; clear hK K; refine hK _ ?_; clear hK K)) | (refine awp_exit ?_; simp only [thenA_exit, inBlk_exit, thenA_normal, inBlk_normal, ↓reduceIte, Nat.reduceEqDiff])))
        rw [e]
        exact awp_ret ⟨_, (by repeat' (first | exact .nil | exact .tmp _ _ rfl | apply ResL.cons)), (by repeat' (first | exact Coe.refl _ | exact Coe.c CoeC.nil | exact Coe.c CoeC.z | exact .nil | apply Coe.tup | apply CoeA.cons)), rfl⟩
      · (repeat' (first | refine awp_block ?_ | ((first | refine awp_tk [] (by kernel_rfl) (fun K hK => ?_) | refine awp_dk [] mixed (by kernel_rfl) (by kernel_rfl) (fun K hK => ?_)); go_simp; (repeat (simp (disch := omega) only [dT, dF, nT, nF, wA, wB, wC, wD]; try go_simp)); (repeat (refine ⟨by (repeat' apply And.intro) <;> first | omega | trivial | assumption | decide, ?_⟩)); (first | (refine hK _ ?_; clear hK K) | (clear hK K; refine hK _ ?_; clear hK K) | (clear hK K; clear hK K; refine hK _ ?_; clear hK K) | (clear hK K; clear hK K; clear hK K; refine hK _ ?_; clear hK K))) | refine awp_ct rfl ?_ | refine awp_cf rfl ?_ | (first | (refine awp_skip (hK _ ?_); clear hK K) | (clear hK K; refine awp_skip (hK _ ?_); clear hK K) | (clear hK K; clear hK K; refine awp_skip (hK _ ?_); clear hK K) | (clear hK K; clear hK K; clear hK K; refine awp_skip (hK _ ?_); clear hK K)) | refine awp_seqk (fun K hK => ?_) | ((first | refine awp_t [] (by kernel_rfl) ?_ | refine awp_d [] mixed (by kernel_rfl) (by kernel_rfl) ?_); go_simp; (repeat (simp (disch := omega) only [dT, dF, nT, nF, wA, wB, wC, wD]; try go_simp)); (repeat (refine ⟨by (repeat' apply And.intro) <;> first | omega | trivial | assumption | decide, ?_⟩))) | (first | (refine hK _ ?_; clear hK K) | (clear hK K; refine hK _ ?_; clear hK K) | (clear hK K; clear hK K; refine hK _ ?_; clear hK K) | (clear hK K; clear hK K; clear hK K; refine hK _ ?_; clear hK K)) | (refine awp_exit ?_; simp only [thenA_exit, inBlk_exit, thenA_normal, inBlk_normal, ↓reduceIte, Nat.reduceEqDiff])))
        refine hR _ _ ?_ ⟨k + 1, by omega, fun i hi => ?_, rfl⟩ ?_
        · refine weak_w (by repeat' (first | exact trivial | exact Coe.refl _ | exact Coe.c CoeC.nil | apply And.intro)) (by repeat' (first | exact trivial | rfl | apply And.intro)) rfl rfl (by repeat' (first | exact trivial | (intro h; first | rfl | (exfalso; omega)) | apply And.intro))
        · rcases Nat.lt_succ_iff_lt_or_eq.1 hi with h | rfl
          · exact HALL.out i h
          · rw [HG.out, HCC.out]; omega
        · simp [nat, sget]; omega
    · have HF3 : Hid (fewS l S = S.all (fun x => decide (x.cl.length ≤ 20 ∧ x.fr.length ≤ 20 ∧ x.on.length ≤ 20))) := Lib.hid (by
        rw [HF2.out]
        have : l.all (fun c => decide (c.length ≤ 12)) = true := by
          rw [List.all_eq_true]
          intro c hc
          obtain ⟨i, hi, rfl⟩ := List.mem_iff_getElem.1 hc
          have := HALL.out i (by omega)
          rw [getD_lt hi] at this
          exact decide_eq_true this
        rw [this, Bool.true_and])
      clear HALL
      (repeat' (first | refine awp_block ?_ | ((first | refine awp_tk [] (by kernel_rfl) (fun K hK => ?_) | refine awp_dk [] mixed (by kernel_rfl) (by kernel_rfl) (fun K hK => ?_)); go_simp; (repeat (simp (disch := omega) only [dT, dF, nT, nF, wA, wB, wC, wD]; try go_simp)); (repeat (refine ⟨by (repeat' apply And.intro) <;> first | omega | trivial | assumption | decide, ?_⟩)); (first | (refine hK _ ?_; clear hK K) | (clear hK K; refine hK _ ?_; clear hK K) | (clear hK K; clear hK K; refine hK _ ?_; clear hK K) | (clear hK K; clear hK K; clear hK K; refine hK _ ?_; clear hK K))) | refine awp_ct rfl ?_ | refine awp_cf rfl ?_ | (first | (refine awp_skip (hK _ ?_); clear hK K) | (clear hK K; refine awp_skip (hK _ ?_); clear hK K) | (clear hK K; clear hK K; refine awp_skip (hK _ ?_); clear hK K) | (clear hK K; clear hK K; clear hK K; refine awp_skip (hK _ ?_); clear hK K)) | refine awp_seqk (fun K hK => ?_) | ((first | refine awp_t [] (by kernel_rfl) ?_ | refine awp_d [] mixed (by kernel_rfl) (by kernel_rfl) ?_); go_simp; (repeat (simp (disch := omega) only [dT, dF, nT, nF, wA, wB, wC, wD]; try go_simp)); (repeat (refine ⟨by (repeat' apply And.intro) <;> first | omega | trivial | assumption | decide, ?_⟩))) | (first | (refine hK _ ?_; clear hK K) | (clear hK K; refine hK _ ?_; clear hK K) | (clear hK K; clear hK K; refine hK _ ?_; clear hK K) | (clear hK K; clear hK K; clear hK K; refine hK _ ?_; clear hK K)) | (refine awp_exit ?_; simp only [thenA_exit, inBlk_exit, thenA_normal, inBlk_normal, ↓reduceIte, Nat.reduceEqDiff])))
      clear hR R
      refine awp_lp (fun s => ∃ k : Nat, k ≤ S.length ∧ (∀ i, i < k → (S.getD i default).cl.length ≤ 20 ∧ (S.getD i default).fr.length ≤ 20 ∧ (S.getD i default).on.length ≤ 20) ∧ s = ⟨[(1, .c (.t (.s (S.map stepR)))), (6, .c (.t (.v (.int .i64 k))))], []⟩) (fun s => S.length - nat 6 s) _ ?_ ⟨0, Nat.zero_le _, fun i h => (by omega), rfl⟩ ?_
      · refine weak_w (by repeat' (first | exact trivial | exact Coe.refl _ | exact Coe.c CoeC.nil | apply And.intro)) (by repeat' (first | exact trivial | rfl | apply And.intro)) rfl rfl (by repeat' (first | exact trivial | (intro h; first | rfl | (exfalso; omega)) | apply And.intro))
      · rintro s R ⟨q, hq, hall, rfl⟩ hR
        have HALL := Lib.hid hall
        clear hall
        by_cases hql : q < S.length
        · have HG := Lib.hid (getD_lt hql default)
          obtain ⟨x, hx⟩ : ∃ x, S[q] = x := ⟨_, rfl⟩
          have HX := Lib.hid hx
          have no : ¬ (x.cl.length ≤ 20 ∧ x.fr.length ≤ 20 ∧ x.on.length ≤ 20) → fewS l S = false := fun h => by
            rw [HF3.out, List.all_eq_false]
            exact ⟨S[q], List.getElem_mem hql, by rw [HX.out]; simpa using h⟩
          have NO := Lib.hid no
          clear no
          by_cases x1 : 20 < x.cl.length
          · (repeat' (first | refine awp_block ?_ | ((first | refine awp_tk [] (by kernel_rfl) (fun K hK => ?_) | refine awp_dk [] mixed (by kernel_rfl) (by kernel_rfl) (fun K hK => ?_)); go_simp; (repeat (simp (disch := omega) only [dT, dF, nT, nF, wA, wB, wC, wD]; try go_simp)); (repeat (refine ⟨by (repeat' apply And.intro) <;> first | omega | trivial | assumption | decide, ?_⟩)); (first | (refine hK _ ?_; clear hK K) | (clear hK K; refine hK _ ?_; clear hK K) | (clear hK K; clear hK K; refine hK _ ?_; clear hK K) | (clear hK K; clear hK K; clear hK K; refine hK _ ?_; clear hK K))) | refine awp_ct rfl ?_ | refine awp_cf rfl ?_ | (first | (refine awp_skip (hK _ ?_); clear hK K) | (clear hK K; refine awp_skip (hK _ ?_); clear hK K) | (clear hK K; clear hK K; refine awp_skip (hK _ ?_); clear hK K) | (clear hK K; clear hK K; clear hK K; refine awp_skip (hK _ ?_); clear hK K)) | refine awp_seqk (fun K hK => ?_) | ((first | refine awp_t [] (by kernel_rfl) ?_ | refine awp_d [] mixed (by kernel_rfl) (by kernel_rfl) ?_); go_simp; (repeat (simp (disch := omega) only [dT, dF, nT, nF, wA, wB, wC, wD]; try go_simp)); (repeat (refine ⟨by (repeat' apply And.intro) <;> first | omega | trivial | assumption | decide, ?_⟩))) | (first | (refine hK _ ?_; clear hK K) | (clear hK K; refine hK _ ?_; clear hK K) | (clear hK K; clear hK K; refine hK _ ?_; clear hK K) | (clear hK K; clear hK K; clear hK K; refine hK _ ?_; clear hK K)) | (refine awp_exit ?_; simp only [thenA_exit, inBlk_exit, thenA_normal, inBlk_normal, ↓reduceIte, Nat.reduceEqDiff])))
            rw [NO.out (by omega)]
            exact awp_ret ⟨_, (by repeat' (first | exact .nil | exact .tmp _ _ rfl | apply ResL.cons)), (by repeat' (first | exact Coe.refl _ | exact Coe.c CoeC.nil | exact Coe.c CoeC.z | exact .nil | apply Coe.tup | apply CoeA.cons)), rfl⟩
          by_cases x2 : 20 < x.fr.length
          · (repeat' (first | refine awp_block ?_ | ((first | refine awp_tk [] (by kernel_rfl) (fun K hK => ?_) | refine awp_dk [] mixed (by kernel_rfl) (by kernel_rfl) (fun K hK => ?_)); go_simp; (repeat (simp (disch := omega) only [dT, dF, nT, nF, wA, wB, wC, wD]; try go_simp)); (repeat (refine ⟨by (repeat' apply And.intro) <;> first | omega | trivial | assumption | decide, ?_⟩)); (first | (refine hK _ ?_; clear hK K) | (clear hK K; refine hK _ ?_; clear hK K) | (clear hK K; clear hK K; refine hK _ ?_; clear hK K) | (clear hK K; clear hK K; clear hK K; refine hK _ ?_; clear hK K))) | refine awp_ct rfl ?_ | refine awp_cf rfl ?_ | (first | (refine awp_skip (hK _ ?_); clear hK K) | (clear hK K; refine awp_skip (hK _ ?_); clear hK K) | (clear hK K; clear hK K; refine awp_skip (hK _ ?_); clear hK K) | (clear hK K; clear hK K; clear hK K; refine awp_skip (hK _ ?_); clear hK K)) | refine awp_seqk (fun K hK => ?_) | ((first | refine awp_t [] (by kernel_rfl) ?_ | refine awp_d [] mixed (by kernel_rfl) (by kernel_rfl) ?_); go_simp; (repeat (simp (disch := omega) only [dT, dF, nT, nF, wA, wB, wC, wD]; try go_simp)); (repeat (refine ⟨by (repeat' apply And.intro) <;> first | omega | trivial | assumption | decide, ?_⟩))) | (first | (refine hK _ ?_; clear hK K) | (clear hK K; refine hK _ ?_; clear hK K) | (clear hK K; clear hK K; refine hK _ ?_; clear hK K) | (clear hK K; clear hK K; clear hK K; refine hK _ ?_; clear hK K)) | (refine awp_exit ?_; simp only [thenA_exit, inBlk_exit, thenA_normal, inBlk_normal, ↓reduceIte, Nat.reduceEqDiff])))
            rw [NO.out (by omega)]
            exact awp_ret ⟨_, (by repeat' (first | exact .nil | exact .tmp _ _ rfl | apply ResL.cons)), (by repeat' (first | exact Coe.refl _ | exact Coe.c CoeC.nil | exact Coe.c CoeC.z | exact .nil | apply Coe.tup | apply CoeA.cons)), rfl⟩
          by_cases x3 : 20 < x.on.length
          · (repeat' (first | refine awp_block ?_ | ((first | refine awp_tk [] (by kernel_rfl) (fun K hK => ?_) | refine awp_dk [] mixed (by kernel_rfl) (by kernel_rfl) (fun K hK => ?_)); go_simp; (repeat (simp (disch := omega) only [dT, dF, nT, nF, wA, wB, wC, wD]; try go_simp)); (repeat (refine ⟨by (repeat' apply And.intro) <;> first | omega | trivial | assumption | decide, ?_⟩)); (first | (refine hK _ ?_; clear hK K) | (clear hK K; refine hK _ ?_; clear hK K) | (clear hK K; clear hK K; refine hK _ ?_; clear hK K) | (clear hK K; clear hK K; clear hK K; refine hK _ ?_; clear hK K))) | refine awp_ct rfl ?_ | refine awp_cf rfl ?_ | (first | (refine awp_skip (hK _ ?_); clear hK K) | (clear hK K; refine awp_skip (hK _ ?_); clear hK K) | (clear hK K; clear hK K; refine awp_skip (hK _ ?_); clear hK K) | (clear hK K; clear hK K; clear hK K; refine awp_skip (hK _ ?_); clear hK K)) | refine awp_seqk (fun K hK => ?_) | ((first | refine awp_t [] (by kernel_rfl) ?_ | refine awp_d [] mixed (by kernel_rfl) (by kernel_rfl) ?_); go_simp; (repeat (simp (disch := omega) only [dT, dF, nT, nF, wA, wB, wC, wD]; try go_simp)); (repeat (refine ⟨by (repeat' apply And.intro) <;> first | omega | trivial | assumption | decide, ?_⟩))) | (first | (refine hK _ ?_; clear hK K) | (clear hK K; refine hK _ ?_; clear hK K) | (clear hK K; clear hK K; refine hK _ ?_; clear hK K) | (clear hK K; clear hK K; clear hK K; refine hK _ ?_; clear hK K)) | (refine awp_exit ?_; simp only [thenA_exit, inBlk_exit, thenA_normal, inBlk_normal, ↓reduceIte, Nat.reduceEqDiff])))
            rw [NO.out (by omega)]
            exact awp_ret ⟨_, (by repeat' (first | exact .nil | exact .tmp _ _ rfl | apply ResL.cons)), (by repeat' (first | exact Coe.refl _ | exact Coe.c CoeC.nil | exact Coe.c CoeC.z | exact .nil | apply Coe.tup | apply CoeA.cons)), rfl⟩
          (repeat' (first | refine awp_block ?_ | ((first | refine awp_tk [] (by kernel_rfl) (fun K hK => ?_) | refine awp_dk [] mixed (by kernel_rfl) (by kernel_rfl) (fun K hK => ?_)); go_simp; (repeat (simp (disch := omega) only [dT, dF, nT, nF, wA, wB, wC, wD]; try go_simp)); (repeat (refine ⟨by (repeat' apply And.intro) <;> first | omega | trivial | assumption | decide, ?_⟩)); (first | (refine hK _ ?_; clear hK K) | (clear hK K; refine hK _ ?_; clear hK K) | (clear hK K; clear hK K; refine hK _ ?_; clear hK K) | (clear hK K; clear hK K; clear hK K; refine hK _ ?_; clear hK K))) | refine awp_ct rfl ?_ | refine awp_cf rfl ?_ | (first | (refine awp_skip (hK _ ?_); clear hK K) | (clear hK K; refine awp_skip (hK _ ?_); clear hK K) | (clear hK K; clear hK K; refine awp_skip (hK _ ?_); clear hK K) | (clear hK K; clear hK K; clear hK K; refine awp_skip (hK _ ?_); clear hK K)) | refine awp_seqk (fun K hK => ?_) | ((first | refine awp_t [] (by kernel_rfl) ?_ | refine awp_d [] mixed (by kernel_rfl) (by kernel_rfl) ?_); go_simp; (repeat (simp (disch := omega) only [dT, dF, nT, nF, wA, wB, wC, wD]; try go_simp)); (repeat (refine ⟨by (repeat' apply And.intro) <;> first | omega | trivial | assumption | decide, ?_⟩))) | (first | (refine hK _ ?_; clear hK K) | (clear hK K; refine hK _ ?_; clear hK K) | (clear hK K; clear hK K; refine hK _ ?_; clear hK K) | (clear hK K; clear hK K; clear hK K; refine hK _ ?_; clear hK K)) | (refine awp_exit ?_; simp only [thenA_exit, inBlk_exit, thenA_normal, inBlk_normal, ↓reduceIte, Nat.reduceEqDiff])))
          refine hR _ _ ?_ ⟨q + 1, by omega, fun i hi => ?_, rfl⟩ ?_
          · refine weak_w (by repeat' (first | exact trivial | exact Coe.refl _ | exact Coe.c CoeC.nil | apply And.intro)) (by repeat' (first | exact trivial | rfl | apply And.intro)) rfl rfl (by repeat' (first | exact trivial | (intro h; first | rfl | (exfalso; omega)) | apply And.intro))
          · rcases Nat.lt_succ_iff_lt_or_eq.1 hi with h | rfl
            · exact HALL.out i h
            · rw [HG.out, HX.out]; omega
          · simp [nat, sget]; omega
        · have e : fewS l S = true := by
            rw [HF3.out, List.all_eq_true]
            intro x hx
            obtain ⟨i, hi, rfl⟩ := List.mem_iff_getElem.1 hx
            have := HALL.out i (by omega)
            rw [getD_lt hi] at this
            exact decide_eq_true this
          (repeat' (first | refine awp_block ?_ | ((first | refine awp_tk [] (by kernel_rfl) (fun K hK => ?_) | refine awp_dk [] mixed (by kernel_rfl) (by kernel_rfl) (fun K hK => ?_)); go_simp; (repeat (simp (disch := omega) only [dT, dF, nT, nF, wA, wB, wC, wD]; try go_simp)); (repeat (refine ⟨by (repeat' apply And.intro) <;> first | omega | trivial | assumption | decide, ?_⟩)); (first | (refine hK _ ?_; clear hK K) | (clear hK K; refine hK _ ?_; clear hK K) | (clear hK K; clear hK K; refine hK _ ?_; clear hK K) | (clear hK K; clear hK K; clear hK K; refine hK _ ?_; clear hK K))) | refine awp_ct rfl ?_ | refine awp_cf rfl ?_ | (first | (refine awp_skip (hK _ ?_); clear hK K) | (clear hK K; refine awp_skip (hK _ ?_); clear hK K) | (clear hK K; clear hK K; refine awp_skip (hK _ ?_); clear hK K) | (clear hK K; clear hK K; clear hK K; refine awp_skip (hK _ ?_); clear hK K)) | refine awp_seqk (fun K hK => ?_) | ((first | refine awp_t [] (by kernel_rfl) ?_ | refine awp_d [] mixed (by kernel_rfl) (by kernel_rfl) ?_); go_simp; (repeat (simp (disch := omega) only [dT, dF, nT, nF, wA, wB, wC, wD]; try go_simp)); (repeat (refine ⟨by (repeat' apply And.intro) <;> first | omega | trivial | assumption | decide, ?_⟩))) | (first | (refine hK _ ?_; clear hK K) | (clear hK K; refine hK _ ?_; clear hK K) | (clear hK K; clear hK K; refine hK _ ?_; clear hK K) | (clear hK K; clear hK K; clear hK K; refine hK _ ?_; clear hK K)) | (refine awp_exit ?_; simp only [thenA_exit, inBlk_exit, thenA_normal, inBlk_normal, ↓reduceIte, Nat.reduceEqDiff])))
          rw [e]
          exact awp_ret ⟨_, (by repeat' (first | exact .nil | exact .tmp _ _ rfl | apply ResL.cons)), (by repeat' (first | exact Coe.refl _ | exact Coe.c CoeC.nil | exact Coe.c CoeC.z | exact .nil | apply Coe.tup | apply CoeA.cons)), rfl⟩
theorem rcheckClause_fx (c : List Int) (n : Int) (hn : n ≤ 9223372036854775807) : FxPure Try.prog 21 [.c (.t (.s (c.map intR))), .c (.t (.v (.int .i64 n)))] (.c (.t (.v (.int .i64 (if Go.Proofs.Ytiimkhnngpfnbaa.okC (max n 0) c = true then 0 else 8))))) :=
  fx_of (y := .int .i64 (if Go.Proofs.Ytiimkhnngpfnbaa.okC (max n 0) c = true then 0 else 8)) fun A w vals hlt hvl hv => by
    obtain ⟨a, cap, e1, h1⟩ := arg_ints (hv 0 (by simp)) hlt
    have e2 := arg_known (hv 1 (by simp))
    rw [vals2 hvl, e1, e2]
    refine (rcheckClause_any a cap c n w h1 hn _ (Lib.hid rfl)).mono ?_
    rintro e w' ⟨rfl, hb⟩
    refine ⟨?_, by first | exact hb | (obtain ⟨m, rfl⟩ := hb; exact below_drewN' (Below.refl _ _) _) | (subst hb; exact Below.refl _ _)⟩
    cases Go.Proofs.Ytiimkhnngpfnbaa.okC (max n 0) c <;> rfl
set_option maxHeartbeats 1000000 in
theorem rcheck_fx (n : Int) (LL : List (List Int)) (hn : -9223372036854775808 ≤ n ∧ n ≤ 9223372036854775807) (hl : LL.length ≤ 1000000) : FxPure Try.prog 13 [.c (.t (.v (.int .i64 n))), .c (.t (.s (LL.map intsR)))] (.c (.t (.v (.int .i64 (chkF n LL))))) := by
  refine fx_pure 31 Try.func13 rfl rfl rfl rfl (fun hlen => ?_)
  clear hlen
  by_cases h1 : n < 0
  · have e : chkF n LL = 8 := by unfold chkF; rw [if_pos (.inl h1)]
    rw [e]
    (repeat' (first | refine awp_block ?_ | ((first | refine awp_tk [] (by kernel_rfl) (fun K hK => ?_) | refine awp_dk [] mixed (by kernel_rfl) (by kernel_rfl) (fun K hK => ?_)); go_simp; (repeat (simp (disch := omega) only [dT, dF, nT, nF, wA, wB, wC, wD]; try go_simp)); (repeat (refine ⟨by (repeat' apply And.intro) <;> first | omega | trivial | assumption | decide, ?_⟩)); (first | (refine hK _ ?_; clear hK K) | (clear hK K; refine hK _ ?_; clear hK K) | (clear hK K; clear hK K; refine hK _ ?_; clear hK K) | (clear hK K; clear hK K; clear hK K; refine hK _ ?_; clear hK K))) | refine awp_ct rfl ?_ | refine awp_cf rfl ?_ | (first | (refine awp_skip (hK _ ?_); clear hK K) | (clear hK K; refine awp_skip (hK _ ?_); clear hK K) | (clear hK K; clear hK K; refine awp_skip (hK _ ?_); clear hK K) | (clear hK K; clear hK K; clear hK K; refine awp_skip (hK _ ?_); clear hK K)) | refine awp_seqk (fun K hK => ?_) | ((first | refine awp_t [] (by kernel_rfl) ?_ | refine awp_d [] mixed (by kernel_rfl) (by kernel_rfl) ?_); go_simp; (repeat (simp (disch := omega) only [dT, dF, nT, nF, wA, wB, wC, wD]; try go_simp)); (repeat (refine ⟨by (repeat' apply And.intro) <;> first | omega | trivial | assumption | decide, ?_⟩))) | (first | (refine hK _ ?_; clear hK K) | (clear hK K; refine hK _ ?_; clear hK K) | (clear hK K; clear hK K; refine hK _ ?_; clear hK K) | (clear hK K; clear hK K; clear hK K; refine hK _ ?_; clear hK K)) | (refine awp_exit ?_; simp only [thenA_exit, inBlk_exit, thenA_normal, inBlk_normal, ↓reduceIte, Nat.reduceEqDiff])))
    exact awp_ret ⟨_, (by repeat' (first | exact .nil | exact .tmp _ _ rfl | apply ResL.cons)), (by repeat' (first | exact Coe.refl _ | exact Coe.c CoeC.nil | exact Coe.c CoeC.z | exact .nil | apply Coe.tup | apply CoeA.cons)), rfl⟩
  by_cases h2 : 400 < n
  · have e : chkF n LL = 8 := by unfold chkF; rw [if_pos (.inr h2)]
    rw [e]
    (repeat' (first | refine awp_block ?_ | ((first | refine awp_tk [] (by kernel_rfl) (fun K hK => ?_) | refine awp_dk [] mixed (by kernel_rfl) (by kernel_rfl) (fun K hK => ?_)); go_simp; (repeat (simp (disch := omega) only [dT, dF, nT, nF, wA, wB, wC, wD]; try go_simp)); (repeat (refine ⟨by (repeat' apply And.intro) <;> first | omega | trivial | assumption | decide, ?_⟩)); (first | (refine hK _ ?_; clear hK K) | (clear hK K; refine hK _ ?_; clear hK K) | (clear hK K; clear hK K; refine hK _ ?_; clear hK K) | (clear hK K; clear hK K; clear hK K; refine hK _ ?_; clear hK K))) | refine awp_ct rfl ?_ | refine awp_cf rfl ?_ | (first | (refine awp_skip (hK _ ?_); clear hK K) | (clear hK K; refine awp_skip (hK _ ?_); clear hK K) | (clear hK K; clear hK K; refine awp_skip (hK _ ?_); clear hK K) | (clear hK K; clear hK K; clear hK K; refine awp_skip (hK _ ?_); clear hK K)) | refine awp_seqk (fun K hK => ?_) | ((first | refine awp_t [] (by kernel_rfl) ?_ | refine awp_d [] mixed (by kernel_rfl) (by kernel_rfl) ?_); go_simp; (repeat (simp (disch := omega) only [dT, dF, nT, nF, wA, wB, wC, wD]; try go_simp)); (repeat (refine ⟨by (repeat' apply And.intro) <;> first | omega | trivial | assumption | decide, ?_⟩))) | (first | (refine hK _ ?_; clear hK K) | (clear hK K; refine hK _ ?_; clear hK K) | (clear hK K; clear hK K; refine hK _ ?_; clear hK K) | (clear hK K; clear hK K; clear hK K; refine hK _ ?_; clear hK K)) | (refine awp_exit ?_; simp only [thenA_exit, inBlk_exit, thenA_normal, inBlk_normal, ↓reduceIte, Nat.reduceEqDiff])))
    exact awp_ret ⟨_, (by repeat' (first | exact .nil | exact .tmp _ _ rfl | apply ResL.cons)), (by repeat' (first | exact Coe.refl _ | exact Coe.c CoeC.nil | exact Coe.c CoeC.z | exact .nil | apply Coe.tup | apply CoeA.cons)), rfl⟩
  by_cases h3 : 8000 < LL.length
  · have e : chkF n LL = 2 := by unfold chkF; rw [if_neg (by omega), if_pos h3]
    rw [e]
    (repeat' (first | refine awp_block ?_ | ((first | refine awp_tk [] (by kernel_rfl) (fun K hK => ?_) | refine awp_dk [] mixed (by kernel_rfl) (by kernel_rfl) (fun K hK => ?_)); go_simp; (repeat (simp (disch := omega) only [dT, dF, nT, nF, wA, wB, wC, wD]; try go_simp)); (repeat (refine ⟨by (repeat' apply And.intro) <;> first | omega | trivial | assumption | decide, ?_⟩)); (first | (refine hK _ ?_; clear hK K) | (clear hK K; refine hK _ ?_; clear hK K) | (clear hK K; clear hK K; refine hK _ ?_; clear hK K) | (clear hK K; clear hK K; clear hK K; refine hK _ ?_; clear hK K))) | refine awp_ct rfl ?_ | refine awp_cf rfl ?_ | (first | (refine awp_skip (hK _ ?_); clear hK K) | (clear hK K; refine awp_skip (hK _ ?_); clear hK K) | (clear hK K; clear hK K; refine awp_skip (hK _ ?_); clear hK K) | (clear hK K; clear hK K; clear hK K; refine awp_skip (hK _ ?_); clear hK K)) | refine awp_seqk (fun K hK => ?_) | ((first | refine awp_t [] (by kernel_rfl) ?_ | refine awp_d [] mixed (by kernel_rfl) (by kernel_rfl) ?_); go_simp; (repeat (simp (disch := omega) only [dT, dF, nT, nF, wA, wB, wC, wD]; try go_simp)); (repeat (refine ⟨by (repeat' apply And.intro) <;> first | omega | trivial | assumption | decide, ?_⟩))) | (first | (refine hK _ ?_; clear hK K) | (clear hK K; refine hK _ ?_; clear hK K) | (clear hK K; clear hK K; refine hK _ ?_; clear hK K) | (clear hK K; clear hK K; clear hK K; refine hK _ ?_; clear hK K)) | (refine awp_exit ?_; simp only [thenA_exit, inBlk_exit, thenA_normal, inBlk_normal, ↓reduceIte, Nat.reduceEqDiff])))
    exact awp_ret ⟨_, (by repeat' (first | exact .nil | exact .tmp _ _ rfl | apply ResL.cons)), (by repeat' (first | exact Coe.refl _ | exact Coe.c CoeC.nil | exact Coe.c CoeC.z | exact .nil | apply Coe.tup | apply CoeA.cons)), rfl⟩
  have HE : Hid (chkF n LL = if LL.all (Go.Proofs.Ytiimkhnngpfnbaa.okC n) = true then 0 else 8) := Lib.hid (by unfold chkF; rw [if_neg (by omega), if_neg h3])
  (repeat' (first | refine awp_block ?_ | ((first | refine awp_tk [] (by kernel_rfl) (fun K hK => ?_) | refine awp_dk [] mixed (by kernel_rfl) (by kernel_rfl) (fun K hK => ?_)); go_simp; (repeat (simp (disch := omega) only [dT, dF, nT, nF, wA, wB, wC, wD]; try go_simp)); (repeat (refine ⟨by (repeat' apply And.intro) <;> first | omega | trivial | assumption | decide, ?_⟩)); (first | (refine hK _ ?_; clear hK K) | (clear hK K; refine hK _ ?_; clear hK K) | (clear hK K; clear hK K; refine hK _ ?_; clear hK K) | (clear hK K; clear hK K; clear hK K; refine hK _ ?_; clear hK K))) | refine awp_ct rfl ?_ | refine awp_cf rfl ?_ | (first | (refine awp_skip (hK _ ?_); clear hK K) | (clear hK K; refine awp_skip (hK _ ?_); clear hK K) | (clear hK K; clear hK K; refine awp_skip (hK _ ?_); clear hK K) | (clear hK K; clear hK K; clear hK K; refine awp_skip (hK _ ?_); clear hK K)) | refine awp_seqk (fun K hK => ?_) | ((first | refine awp_t [] (by kernel_rfl) ?_ | refine awp_d [] mixed (by kernel_rfl) (by kernel_rfl) ?_); go_simp; (repeat (simp (disch := omega) only [dT, dF, nT, nF, wA, wB, wC, wD]; try go_simp)); (repeat (refine ⟨by (repeat' apply And.intro) <;> first | omega | trivial | assumption | decide, ?_⟩))) | (first | (refine hK _ ?_; clear hK K) | (clear hK K; refine hK _ ?_; clear hK K) | (clear hK K; clear hK K; refine hK _ ?_; clear hK K) | (clear hK K; clear hK K; clear hK K; refine hK _ ?_; clear hK K)) | (refine awp_exit ?_; simp only [thenA_exit, inBlk_exit, thenA_normal, inBlk_normal, ↓reduceIte, Nat.reduceEqDiff])))
  refine awp_lp (fun s => ∃ k : Nat, k ≤ LL.length ∧ (∀ j, j < k → Go.Proofs.Ytiimkhnngpfnbaa.okC n (LL.getD j []) = true) ∧ s = ⟨[(0, .c (.t (.v (.int .i64 n)))), (1, .c (.t (.s (LL.map intsR)))), (5, .c (.t (.v (.int .i64 k))))], []⟩) (fun s => LL.length - nat 5 s) _ ?_ ⟨0, Nat.zero_le _, fun j h => (by omega), rfl⟩ ?_
  · refine weak_w (by repeat' (first | exact trivial | exact Coe.refl _ | exact Coe.c CoeC.nil | apply And.intro)) (by repeat' (first | exact trivial | rfl | apply And.intro)) rfl rfl (by repeat' (first | exact trivial | (intro h; first | rfl | (exfalso; omega)) | apply And.intro))
  · rintro s R ⟨k, hk, hall, rfl⟩ hR
    have HALL := Lib.hid hall
    clear hall
    by_cases hlt : k < LL.length
    · have HG := Lib.hid (getD_lt hlt [])
      have hmx : max n 0 = n := by omega
      cases hc : Go.Proofs.Ytiimkhnngpfnbaa.okC n LL[k] with
      | true =>
        (repeat' (first | refine awp_block ?_ | ((first | refine awp_tk [] (by kernel_rfl) (fun K hK => ?_) | refine awp_dk [] mixed (by kernel_rfl) (by kernel_rfl) (fun K hK => ?_)); go_simp; (repeat (simp (disch := omega) only [dT, dF, nT, nF, wA, wB, wC, wD]; try go_simp)); (repeat (refine ⟨by (repeat' apply And.intro) <;> first | omega | trivial | assumption | decide, ?_⟩)); (first | (refine hK _ ?_; clear hK K) | (clear hK K; refine hK _ ?_; clear hK K) | (clear hK K; clear hK K; refine hK _ ?_; clear hK K) | (clear hK K; clear hK K; clear hK K; refine hK _ ?_; clear hK K))) | refine awp_ct rfl ?_ | refine awp_cf rfl ?_ | (first | (refine awp_skip (hK _ ?_); clear hK K) | (clear hK K; refine awp_skip (hK _ ?_); clear hK K) | (clear hK K; clear hK K; refine awp_skip (hK _ ?_); clear hK K) | (clear hK K; clear hK K; clear hK K; refine awp_skip (hK _ ?_); clear hK K)) | refine awp_seqk (fun K hK => ?_) | ((first | refine awp_t [] (by kernel_rfl) ?_ | refine awp_d [] mixed (by kernel_rfl) (by kernel_rfl) ?_); go_simp; (repeat (simp (disch := omega) only [dT, dF, nT, nF, wA, wB, wC, wD]; try go_simp)); (repeat (refine ⟨by (repeat' apply And.intro) <;> first | omega | trivial | assumption | decide, ?_⟩))) | (first | (refine hK _ ?_; clear hK K) | (clear hK K; refine hK _ ?_; clear hK K) | (clear hK K; clear hK K; refine hK _ ?_; clear hK K) | (clear hK K; clear hK K; clear hK K; refine hK _ ?_; clear hK K)) | (refine awp_exit ?_; simp only [thenA_exit, inBlk_exit, thenA_normal, inBlk_normal, ↓reduceIte, Nat.reduceEqDiff])))
        refine callV (rcheckClause_fx LL[k] n (by omega)) rfl ?_
        go_simp
        (repeat (simp (disch := omega) only [dT, dF, nT, nF, wA, wB, wC, wD]; try go_simp))
        (repeat (refine ⟨by (repeat' apply And.intro) <;> first | omega | trivial | assumption | decide, ?_⟩))
        (repeat' (first | refine awp_block ?_ | ((first | refine awp_tk [] (by kernel_rfl) (fun K hK => ?_) | refine awp_dk [] mixed (by kernel_rfl) (by kernel_rfl) (fun K hK => ?_)); go_simp; (repeat (simp (disch := omega) only [dT, dF, nT, nF, wA, wB, wC, wD]; try go_simp)); (repeat (refine ⟨by (repeat' apply And.intro) <;> first | omega | trivial | assumption | decide, ?_⟩)); (first | (refine hK _ ?_; clear hK K) | (clear hK K; refine hK _ ?_; clear hK K) | (clear hK K; clear hK K; refine hK _ ?_; clear hK K) | (clear hK K; clear hK K; clear hK K; refine hK _ ?_; clear hK K))) | refine awp_ct rfl ?_ | refine awp_cf rfl ?_ | (first | (refine awp_skip (hK _ ?_); clear hK K) | (clear hK K; refine awp_skip (hK _ ?_); clear hK K) | (clear hK K; clear hK K; refine awp_skip (hK _ ?_); clear hK K) | (clear hK K; clear hK K; clear hK K; refine awp_skip (hK _ ?_); clear hK K)) | refine awp_seqk (fun K hK => ?_) | ((first | refine awp_t [] (by kernel_rfl) ?_ | refine awp_d [] mixed (by kernel_rfl) (by kernel_rfl) ?_); go_simp; (repeat (simp (disch := omega) only [dT, dF, nT, nF, wA, wB, wC, wD]; try go_simp)); (repeat (refine ⟨by (repeat' apply And.intro) <;> first | omega | trivial | assumption | decide, ?_⟩))) | (first | (refine hK _ ?_; clear hK K) | (clear hK K; refine hK _ ?_; clear hK K) | (clear hK K; clear hK K; refine hK _ ?_; clear hK K) | (clear hK K; clear hK K; clear hK K; refine hK _ ?_; clear hK K)) | (refine awp_exit ?_; simp only [thenA_exit, inBlk_exit, thenA_normal, inBlk_normal, ↓reduceIte, Nat.reduceEqDiff])))
        refine hR _ _ ?_ ⟨k + 1, by omega, fun j hj => ?_, rfl⟩ ?_
        · refine weak_w (by repeat' (first | exact trivial | exact Coe.refl _ | exact Coe.c CoeC.nil | apply And.intro)) (by repeat' (first | exact trivial | rfl | apply And.intro)) rfl rfl (by repeat' (first | exact trivial | (intro h; first | rfl | (exfalso; omega)) | apply And.intro))
        · rcases Nat.lt_succ_iff_lt_or_eq.1 hj with h | rfl
          · exact HALL.out j h
          · rw [HG.out]; exact hc
        · simp [nat, sget]; omega
      | false =>
        have e : chkF n LL = 8 := by
          rw [HE.out, if_neg]
          intro h
          rw [List.all_eq_true.1 h _ (List.getElem_mem hlt)] at hc; cases hc
        (repeat' (first | refine awp_block ?_ | ((first | refine awp_tk [] (by kernel_rfl) (fun K hK => ?_) | refine awp_dk [] mixed (by kernel_rfl) (by kernel_rfl) (fun K hK => ?_)); go_simp; (repeat (simp (disch := omega) only [dT, dF, nT, nF, wA, wB, wC, wD]; try go_simp)); (repeat (refine ⟨by (repeat' apply And.intro) <;> first | omega | trivial | assumption | decide, ?_⟩)); (first | (refine hK _ ?_; clear hK K) | (clear hK K; refine hK _ ?_; clear hK K) | (clear hK K; clear hK K; refine hK _ ?_; clear hK K) | (clear hK K; clear hK K; clear hK K; refine hK _ ?_; clear hK K))) | refine awp_ct rfl ?_ | refine awp_cf rfl ?_ | (first | (refine awp_skip (hK _ ?_); clear hK K) | (clear hK K; refine awp_skip (hK _ ?_); clear hK K) | (clear hK K; clear hK K; refine awp_skip (hK _ ?_); clear hK K) | (clear hK K; clear hK K; clear hK K; refine awp_skip (hK _ ?_); clear hK K)) | refine awp_seqk (fun K hK => ?_) | ((first | refine awp_t [] (by kernel_rfl) ?_ | refine awp_d [] mixed (by kernel_rfl) (by kernel_rfl) ?_); go_simp; (repeat (simp (disch := omega) only [dT, dF, nT, nF, wA, wB, wC, wD]; try go_simp)); (repeat (refine ⟨by (repeat' apply And.intro) <;> first | omega | trivial | assumption | decide, ?_⟩))) | (first | (refine hK _ ?_; clear hK K) | (clear hK K; refine hK _ ?_; clear hK K) | (clear hK K; clear hK K; refine hK _ ?_; clear hK K) | (clear hK K; clear hK K; clear hK K; refine hK _ ?_; clear hK K)) | (refine awp_exit ?_; simp only [thenA_exit, inBlk_exit, thenA_normal, inBlk_normal, ↓reduceIte, Nat.reduceEqDiff])))
        refine callV (rcheckClause_fx LL[k] n (by omega)) rfl ?_
        go_simp
        (repeat (simp (disch := omega) only [dT, dF, nT, nF, wA, wB, wC, wD]; try go_simp))
        (repeat (refine ⟨by (repeat' apply And.intro) <;> first | omega | trivial | assumption | decide, ?_⟩))
        (repeat' (first | refine awp_block ?_ | ((first | refine awp_tk [] (by kernel_rfl) (fun K hK => ?_) | refine awp_dk [] mixed (by kernel_rfl) (by kernel_rfl) (fun K hK => ?_)); go_simp; (repeat (simp (disch := omega) only [dT, dF, nT, nF, wA, wB, wC, wD]; try go_simp)); (repeat (refine ⟨by (repeat' apply And.intro) <;> first | omega | trivial | assumption | decide, ?_⟩)); (first | (refine hK _ ?_; clear hK K) | (clear hK K; refine hK _ ?_; clear hK K) | (clear hK K; clear hK K; refine hK _ ?_; clear hK K) | (clear hK K; clear hK K; clear hK K; refine hK _ ?_; clear hK K))) | refine awp_ct rfl ?_ | refine awp_cf rfl ?_ | (first | (refine awp_skip (hK _ ?_); clear hK K) | (clear hK K; refine awp_skip (hK _ ?_); clear hK K) | (clear hK K; clear hK K; refine awp_skip (hK _ ?_); clear hK K) | (clear hK K; clear hK K; clear hK K; refine awp_skip (hK _ ?_); clear hK K)) | refine awp_seqk (fun K hK => ?_) | ((first | refine awp_t [] (by kernel_rfl) ?_ | refine awp_d [] mixed (by kernel_rfl) (by kernel_rfl) ?_); go_simp; (repeat (simp (disch := omega) only [dT, dF, nT, nF, wA, wB, wC, wD]; try go_simp)); (repeat (refine ⟨by (repeat' apply And.intro) <;> first | omega | trivial | assumption | decide, ?_⟩))) | (first | (refine hK _ ?_; clear hK K) | (clear hK K; refine hK _ ?_; clear hK K) | (clear hK K; clear hK K; refine hK _ ?_; clear hK K) | (clear hK K; clear hK K; clear hK K; refine hK _ ?_; clear hK K)) | (refine awp_exit ?_; simp only [thenA_exit, inBlk_exit, thenA_normal, inBlk_normal, ↓reduceIte, Nat.reduceEqDiff])))
        rw [e]
        exact awp_ret ⟨_, (by repeat' (first | exact .nil | exact .tmp _ _ rfl | apply ResL.cons)), (by repeat' (first | exact Coe.refl _ | exact Coe.c CoeC.nil | exact Coe.c CoeC.z | exact .nil | apply Coe.tup | apply CoeA.cons)), rfl⟩
    · have e : chkF n LL = 0 := by
        rw [HE.out, if_pos]
        rw [List.all_eq_true]
        intro c hc
        obtain ⟨j, hj, rfl⟩ := List.mem_iff_getElem.1 hc
        have := HALL.out j (by omega)
        rw [getD_lt hj] at this
        exact this
      (repeat' (first | refine awp_block ?_ | ((first | refine awp_tk [] (by kernel_rfl) (fun K hK => ?_) | refine awp_dk [] mixed (by kernel_rfl) (by kernel_rfl) (fun K hK => ?_)); go_simp; (repeat (simp (disch := omega) only [dT, dF, nT, nF, wA, wB, wC, wD]; try go_simp)); (repeat (refine ⟨by (repeat' apply And.intro) <;> first | omega | trivial | assumption | decide, ?_⟩)); (first | (refine hK _ ?_; clear hK K) | (clear hK K; refine hK _ ?_; clear hK K) | (clear hK K; clear hK K; refine hK _ ?_; clear hK K) | (clear hK K; clear hK K; clear hK K; refine hK _ ?_; clear hK K))) | refine awp_ct rfl ?_ | refine awp_cf rfl ?_ | (first | (refine awp_skip (hK _ ?_); clear hK K) | (clear hK K; refine awp_skip (hK _ ?_); clear hK K) | (clear hK K; clear hK K; refine awp_skip (hK _ ?_); clear hK K) | (clear hK K; clear hK K; clear hK K; refine awp_skip (hK _ ?_); clear hK K)) | refine awp_seqk (fun K hK => ?_) | ((first | refine awp_t [] (by kernel_rfl) ?_ | refine awp_d [] mixed (by kernel_rfl) (by kernel_rfl) ?_); go_simp; (repeat (simp (disch := omega) only [dT, dF, nT, nF, wA, wB, wC, wD]; try go_simp)); (repeat (refine ⟨by (repeat' apply And.intro) <;> first | omega | trivial | assumption | decide, ?_⟩))) | (first | (refine hK _ ?_; clear hK K) | (clear hK K; refine hK _ ?_; clear hK K) | (clear hK K; clear hK K; refine hK _ ?_; clear hK K) | (clear hK K; clear hK K; clear hK K; refine hK _ ?_; clear hK K)) | (refine awp_exit ?_; simp only [thenA_exit, inBlk_exit, thenA_normal, inBlk_normal, ↓reduceIte, Nat.reduceEqDiff])))
      rw [e]
      exact awp_ret ⟨_, (by repeat' (first | exact .nil | exact .tmp _ _ rfl | apply ResL.cons)), (by repeat' (first | exact Coe.refl _ | exact Coe.c CoeC.nil | exact Coe.c CoeC.z | exact .nil | apply Coe.tup | apply CoeA.cons)), rfl⟩
set_option maxHeartbeats 1000000 in
theorem back_fx (L : List StepD) (hL : L.length ≤ 100000) : FxPure Try.prog 15 [.c (.t (.s (L.map stepR)))] (.c (.t (.s (L.map stepR)))) := by
  refine fx_pure 31 Try.func15 rfl rfl rfl rfl (fun hlen => ?_)
  clear hlen
  (repeat' (first | refine awp_block ?_ | ((first | refine awp_tk [] (by kernel_rfl) (fun K hK => ?_) | refine awp_dk [] mixed (by kernel_rfl) (by kernel_rfl) (fun K hK => ?_)); go_simp; (repeat (simp (disch := omega) only [dT, dF, nT, nF, wA, wB, wC, wD]; try go_simp)); (repeat (refine ⟨by (repeat' apply And.intro) <;> first | omega | trivial | assumption | decide, ?_⟩)); (first | (refine hK _ ?_; clear hK K) | (clear hK K; refine hK _ ?_; clear hK K) | (clear hK K; clear hK K; refine hK _ ?_; clear hK K) | (clear hK K; clear hK K; clear hK K; refine hK _ ?_; clear hK K))) | refine awp_ct rfl ?_ | refine awp_cf rfl ?_ | (first | (refine awp_skip (hK _ ?_); clear hK K) | (clear hK K; refine awp_skip (hK _ ?_); clear hK K) | (clear hK K; clear hK K; refine awp_skip (hK _ ?_); clear hK K) | (clear hK K; clear hK K; clear hK K; refine awp_skip (hK _ ?_); clear hK K)) | refine awp_seqk (fun K hK => ?_) | ((first | refine awp_t [] (by kernel_rfl) ?_ | refine awp_d [] mixed (by kernel_rfl) (by kernel_rfl) ?_); go_simp; (repeat (simp (disch := omega) only [dT, dF, nT, nF, wA, wB, wC, wD]; try go_simp)); (repeat (refine ⟨by (repeat' apply And.intro) <;> first | omega | trivial | assumption | decide, ?_⟩))) | (first | (refine hK _ ?_; clear hK K) | (clear hK K; refine hK _ ?_; clear hK K) | (clear hK K; clear hK K; refine hK _ ?_; clear hK K) | (clear hK K; clear hK K; clear hK K; refine hK _ ?_; clear hK K)) | (refine awp_exit ?_; simp only [thenA_exit, inBlk_exit, thenA_normal, inBlk_normal, ↓reduceIte, Nat.reduceEqDiff])))
  refine awp_weak (weak_adopt 3 3 42 3 (by decide) (.inl rfl) rfl) ?_
  refine awp_lp (fun s => ∃ k : Nat, ∃ D : List StepD, k ≤ L.length ∧ D = L.take k ∧ s = ⟨[(0, .c (.t (.s (L.map stepR)))), (3, .c (.own 3 k)), (4, .c (.t (.v (.int .i64 k))))], [(3, .row 42 3 (D.map stepR))]⟩) (fun s => L.length - nat 4 s) _ ?_ ⟨0, [], Nat.zero_le _, rfl, rfl⟩ ?_
  · refine weak_w (by repeat' (first | exact trivial | exact Coe.refl _ | exact Coe.c CoeC.nil | apply And.intro)) (by repeat' (first | exact trivial | rfl | apply And.intro)) rfl rfl (by repeat' (first | exact trivial | (intro h; first | rfl | (exfalso; omega)) | apply And.intro))
  · rintro s R ⟨k, D, hk, hD, rfl⟩ hR
    have HD := Lib.hid hD
    have hdl : D.length = k := by rw [hD, List.length_take]; omega
    clear hD
    by_cases hlt : k < L.length
    · (repeat' (first | refine awp_block ?_ | ((first | refine awp_tk [] (by kernel_rfl) (fun K hK => ?_) | refine awp_dk [] mixed (by kernel_rfl) (by kernel_rfl) (fun K hK => ?_)); go_simp; (repeat (simp (disch := omega) only [dT, dF, nT, nF, wA, wB, wC, wD]; try go_simp)); (repeat (refine ⟨by (repeat' apply And.intro) <;> first | omega | trivial | assumption | decide, ?_⟩)); (first | (refine hK _ ?_; clear hK K) | (clear hK K; refine hK _ ?_; clear hK K) | (clear hK K; clear hK K; refine hK _ ?_; clear hK K) | (clear hK K; clear hK K; clear hK K; refine hK _ ?_; clear hK K))) | refine awp_ct rfl ?_ | refine awp_cf rfl ?_ | (first | (refine awp_skip (hK _ ?_); clear hK K) | (clear hK K; refine awp_skip (hK _ ?_); clear hK K) | (clear hK K; clear hK K; refine awp_skip (hK _ ?_); clear hK K) | (clear hK K; clear hK K; clear hK K; refine awp_skip (hK _ ?_); clear hK K)) | refine awp_seqk (fun K hK => ?_) | ((first | refine awp_t [] (by kernel_rfl) ?_ | refine awp_d [] mixed (by kernel_rfl) (by kernel_rfl) ?_); go_simp; (repeat (simp (disch := omega) only [dT, dF, nT, nF, wA, wB, wC, wD]; try go_simp)); (repeat (refine ⟨by (repeat' apply And.intro) <;> first | omega | trivial | assumption | decide, ?_⟩))) | (first | (refine hK _ ?_; clear hK K) | (clear hK K; refine hK _ ?_; clear hK K) | (clear hK K; clear hK K; refine hK _ ?_; clear hK K) | (clear hK K; clear hK K; clear hK K; refine hK _ ?_; clear hK K)) | (refine awp_exit ?_; simp only [thenA_exit, inBlk_exit, thenA_normal, inBlk_normal, ↓reduceIte, Nat.reduceEqDiff])))
      refine hR _ _ ?_ ⟨k + 1, D ++ [L[k]], by omega, by rw [HD.out, List.take_succ_eq_append_getElem hlt], rfl⟩ ?_
      · simp only [List.map_append, List.map_cons, List.map_nil, stepR]
        refine weak_w (by repeat' (first | exact trivial | exact Coe.refl _ | exact Coe.c CoeC.nil | apply And.intro)) (by repeat' (first | exact trivial | rfl | apply And.intro)) rfl rfl (by repeat' (first | exact trivial | (intro h; first | rfl | (exfalso; omega)) | apply And.intro))
      · simp [nat, sget]; omega
    · have HD2 : Hid (D = L) := Lib.hid (by rw [HD.out, List.take_of_length_le (by omega)])
      (repeat' (first | refine awp_block ?_ | ((first | refine awp_tk [] (by kernel_rfl) (fun K hK => ?_) | refine awp_dk [] mixed (by kernel_rfl) (by kernel_rfl) (fun K hK => ?_)); go_simp; (repeat (simp (disch := omega) only [dT, dF, nT, nF, wA, wB, wC, wD]; try go_simp)); (repeat (refine ⟨by (repeat' apply And.intro) <;> first | omega | trivial | assumption | decide, ?_⟩)); (first | (refine hK _ ?_; clear hK K) | (clear hK K; refine hK _ ?_; clear hK K) | (clear hK K; clear hK K; refine hK _ ?_; clear hK K) | (clear hK K; clear hK K; clear hK K; refine hK _ ?_; clear hK K))) | refine awp_ct rfl ?_ | refine awp_cf rfl ?_ | (first | (refine awp_skip (hK _ ?_); clear hK K) | (clear hK K; refine awp_skip (hK _ ?_); clear hK K) | (clear hK K; clear hK K; refine awp_skip (hK _ ?_); clear hK K) | (clear hK K; clear hK K; clear hK K; refine awp_skip (hK _ ?_); clear hK K)) | refine awp_seqk (fun K hK => ?_) | ((first | refine awp_t [] (by kernel_rfl) ?_ | refine awp_d [] mixed (by kernel_rfl) (by kernel_rfl) ?_); go_simp; (repeat (simp (disch := omega) only [dT, dF, nT, nF, wA, wB, wC, wD]; try go_simp)); (repeat (refine ⟨by (repeat' apply And.intro) <;> first | omega | trivial | assumption | decide, ?_⟩))) | (first | (refine hK _ ?_; clear hK K) | (clear hK K; refine hK _ ?_; clear hK K) | (clear hK K; clear hK K; refine hK _ ?_; clear hK K) | (clear hK K; clear hK K; clear hK K; refine hK _ ?_; clear hK K)) | (refine awp_exit ?_; simp only [thenA_exit, inBlk_exit, thenA_normal, inBlk_normal, ↓reduceIte, Nat.reduceEqDiff])))
      refine awp_weak (weak_freeze 3 (by decide) rfl) ?_
      simp only [frzS, frzAV, frzC, frzH, frzO, List.map_cons, List.map_nil, List.length_cons, List.length_nil, Nat.zero_add, Nat.reduceAdd, ↓reduceIte, Nat.reduceEqDiff, List.length_map, hdl]
      rw [HD2.out]
      exact awp_ret ⟨_, (by repeat' (first | exact .nil | exact .tmp _ _ rfl | apply ResL.cons)), (by repeat' (first | exact Coe.refl _ | exact Coe.c CoeC.nil | exact Coe.c CoeC.z | exact .nil | apply Coe.tup | apply CoeA.cons)), rfl⟩
theorem step_eq {x y : StepD} (h1 : x.cl = y.cl) (h2 : x.fr = y.fr) (h3 : x.on = y.on) : x = y := by cases x; cases y; simp_all
set_option maxHeartbeats 2000000 in
theorem same_fx (A B : List StepD) (hA : A.length ≤ 100000) (hB : B.length ≤ 100000) (la : ∀ x ∈ A, x.cl.length ≤ 1000000 ∧ x.fr.length ≤ 1000000 ∧ x.on.length ≤ 1000000) (lb : ∀ x ∈ B, x.cl.length ≤ 1000000 ∧ x.fr.length ≤ 1000000 ∧ x.on.length ≤ 1000000) : FxPure Try.prog 10 [.c (.t (.s (A.map stepR))), .c (.t (.s (B.map stepR)))] (.c (.t (.v (.bool (decide (A = B)))))) := by
  refine fx_pure 57 Try.func10 rfl rfl rfl rfl (fun hlen => ?_)
  clear hlen
  have LA := Lib.hid la
  have LB := Lib.hid lb
  clear la lb
  by_cases h1 : A.length = B.length
  · obtain ⟨n, hb1⟩ : ∃ n, B.length = n := ⟨_, rfl⟩
    have ha1 : A.length = n := h1.trans hb1
    have hb2 : n ≤ 1000000 := by omega
    clear h1 hA hB
    (repeat' (first | refine awp_block ?_ | ((first | refine awp_tk [] (by kernel_rfl) (fun K hK => ?_) | refine awp_dk [] mixed (by kernel_rfl) (by kernel_rfl) (fun K hK => ?_)); go_simp; (repeat (simp (disch := omega) only [dT, dF, nT, nF, wA, wB, wC, wD]; try go_simp)); (repeat (refine ⟨by (repeat' apply And.intro) <;> first | omega | trivial | assumption | decide, ?_⟩)); (first | (refine hK _ ?_; clear hK K) | (clear hK K; refine hK _ ?_; clear hK K) | (clear hK K; clear hK K; refine hK _ ?_; clear hK K) | (clear hK K; clear hK K; clear hK K; refine hK _ ?_; clear hK K))) | refine awp_ct rfl ?_ | refine awp_cf rfl ?_ | (first | (refine awp_skip (hK _ ?_); clear hK K) | (clear hK K; refine awp_skip (hK _ ?_); clear hK K) | (clear hK K; clear hK K; refine awp_skip (hK _ ?_); clear hK K) | (clear hK K; clear hK K; clear hK K; refine awp_skip (hK _ ?_); clear hK K)) | refine awp_seqk (fun K hK => ?_) | ((first | refine awp_t [] (by kernel_rfl) ?_ | refine awp_d [] mixed (by kernel_rfl) (by kernel_rfl) ?_); go_simp; (repeat (simp (disch := omega) only [dT, dF, nT, nF, wA, wB, wC, wD]; try go_simp)); (repeat (refine ⟨by (repeat' apply And.intro) <;> first | omega | trivial | assumption | decide, ?_⟩))) | (first | (refine hK _ ?_; clear hK K) | (clear hK K; refine hK _ ?_; clear hK K) | (clear hK K; clear hK K; refine hK _ ?_; clear hK K) | (clear hK K; clear hK K; clear hK K; refine hK _ ?_; clear hK K)) | (refine awp_exit ?_; simp only [thenA_exit, inBlk_exit, thenA_normal, inBlk_normal, ↓reduceIte, Nat.reduceEqDiff])))
    refine awp_lp (fun s => ∃ k : Nat, k ≤ n ∧ A.take k = B.take k ∧ s = ⟨[(0, .c (.t (.s (A.map stepR)))), (1, .c (.t (.s (B.map stepR)))), (5, .c (.t (.v (.int .i64 k))))], []⟩) (fun s => n - nat 5 s) _ ?_ ⟨0, Nat.zero_le _, rfl, rfl⟩ ?_
    · refine weak_w (by repeat' (first | exact trivial | exact Coe.refl _ | exact Coe.c CoeC.nil | apply And.intro)) (by repeat' (first | exact trivial | rfl | apply And.intro)) rfl rfl (by repeat' (first | exact trivial | (intro h; first | rfl | (exfalso; omega)) | apply And.intro))
    · rintro s R ⟨k, hk, htk, rfl⟩ hR
      have HT := Lib.hid htk
      clear htk
      by_cases hlt : k < n
      · have hla : k < A.length := by omega
        have hlb : k < B.length := by omega
        have L1 := Lib.hid (LA.out _ (List.getElem_mem hla))
        have L2 := Lib.hid (LB.out _ (List.getElem_mem hlb))
        obtain ⟨x, hx⟩ : ∃ x, A[k] = x := ⟨_, rfl⟩
        obtain ⟨y, hy⟩ : ∃ x, B[k] = x := ⟨_, rfl⟩
        have HX := Lib.hid hx
        have HY := Lib.hid hy
        rw [hx] at L1
        rw [hy] at L2
        have no : x ≠ y → decide (A = B) = false := fun h => decide_eq_false (fun e => h (by rw [← HX.out, ← HY.out]; subst e; rfl))
        have NO := Lib.hid no
        clear no
        obtain ⟨b1, e1⟩ : ∃ b, decide (x.cl = y.cl) = b := ⟨_, rfl⟩
        obtain ⟨b2, e2⟩ : ∃ b, decide (x.fr = y.fr) = b := ⟨_, rfl⟩
        obtain ⟨b3, e3⟩ : ∃ b, decide (x.on = y.on) = b := ⟨_, rfl⟩
        (repeat' (first | refine awp_block ?_ | ((first | refine awp_tk [] (by kernel_rfl) (fun K hK => ?_) | refine awp_dk [] mixed (by kernel_rfl) (by kernel_rfl) (fun K hK => ?_)); go_simp; (repeat (simp (disch := omega) only [dT, dF, nT, nF, wA, wB, wC, wD]; try go_simp)); (repeat (refine ⟨by (repeat' apply And.intro) <;> first | omega | trivial | assumption | decide, ?_⟩)); (first | (refine hK _ ?_; clear hK K) | (clear hK K; refine hK _ ?_; clear hK K) | (clear hK K; clear hK K; refine hK _ ?_; clear hK K) | (clear hK K; clear hK K; clear hK K; refine hK _ ?_; clear hK K))) | refine awp_ct rfl ?_ | refine awp_cf rfl ?_ | (first | (refine awp_skip (hK _ ?_); clear hK K) | (clear hK K; refine awp_skip (hK _ ?_); clear hK K) | (clear hK K; clear hK K; refine awp_skip (hK _ ?_); clear hK K) | (clear hK K; clear hK K; clear hK K; refine awp_skip (hK _ ?_); clear hK K)) | refine awp_seqk (fun K hK => ?_) | ((first | refine awp_t [] (by kernel_rfl) ?_ | refine awp_d [] mixed (by kernel_rfl) (by kernel_rfl) ?_); go_simp; (repeat (simp (disch := omega) only [dT, dF, nT, nF, wA, wB, wC, wD]; try go_simp)); (repeat (refine ⟨by (repeat' apply And.intro) <;> first | omega | trivial | assumption | decide, ?_⟩))) | (first | (refine hK _ ?_; clear hK K) | (clear hK K; refine hK _ ?_; clear hK K) | (clear hK K; clear hK K; refine hK _ ?_; clear hK K) | (clear hK K; clear hK K; clear hK K; refine hK _ ?_; clear hK K)) | (refine awp_exit ?_; simp only [thenA_exit, inBlk_exit, thenA_normal, inBlk_normal, ↓reduceIte, Nat.reduceEqDiff])))
        refine callV (ints_fx x.cl y.cl L1.out.1 L2.out.1) rfl ?_
        go_simp
        (repeat (simp (disch := omega) only [dT, dF, nT, nF, wA, wB, wC, wD]; try go_simp))
        (repeat (refine ⟨by (repeat' apply And.intro) <;> first | omega | trivial | assumption | decide, ?_⟩))
        cases b1 with
        | false =>
          go_simp
          (repeat (simp (disch := omega) only [dT, dF, nT, nF, wA, wB, wC, wD]; try go_simp))
          (repeat (refine ⟨by (repeat' apply And.intro) <;> first | omega | trivial | assumption | decide, ?_⟩))
          (repeat' (first | refine awp_block ?_ | ((first | refine awp_tk [] (by kernel_rfl) (fun K hK => ?_) | refine awp_dk [] mixed (by kernel_rfl) (by kernel_rfl) (fun K hK => ?_)); go_simp; (repeat (simp (disch := omega) only [dT, dF, nT, nF, wA, wB, wC, wD]; try go_simp)); (repeat (refine ⟨by (repeat' apply And.intro) <;> first | omega | trivial | assumption | decide, ?_⟩)); (first | (refine hK _ ?_; clear hK K) | (clear hK K; refine hK _ ?_; clear hK K) | (clear hK K; clear hK K; refine hK _ ?_; clear hK K) | (clear hK K; clear hK K; clear hK K; refine hK _ ?_; clear hK K))) | refine awp_ct rfl ?_ | refine awp_cf rfl ?_ | (first | (refine awp_skip (hK _ ?_); clear hK K) | (clear hK K; refine awp_skip (hK _ ?_); clear hK K) | (clear hK K; clear hK K; refine awp_skip (hK _ ?_); clear hK K) | (clear hK K; clear hK K; clear hK K; refine awp_skip (hK _ ?_); clear hK K)) | refine awp_seqk (fun K hK => ?_) | ((first | refine awp_t [] (by kernel_rfl) ?_ | refine awp_d [] mixed (by kernel_rfl) (by kernel_rfl) ?_); go_simp; (repeat (simp (disch := omega) only [dT, dF, nT, nF, wA, wB, wC, wD]; try go_simp)); (repeat (refine ⟨by (repeat' apply And.intro) <;> first | omega | trivial | assumption | decide, ?_⟩))) | (first | (refine hK _ ?_; clear hK K) | (clear hK K; refine hK _ ?_; clear hK K) | (clear hK K; clear hK K; refine hK _ ?_; clear hK K) | (clear hK K; clear hK K; clear hK K; refine hK _ ?_; clear hK K)) | (refine awp_exit ?_; simp only [thenA_exit, inBlk_exit, thenA_normal, inBlk_normal, ↓reduceIte, Nat.reduceEqDiff])))
          rw [NO.out (fun h => of_decide_eq_false e1 (by rw [h]))]
          exact awp_ret ⟨_, (by repeat' (first | exact .nil | exact .tmp _ _ rfl | apply ResL.cons)), (by repeat' (first | exact Coe.refl _ | exact Coe.c CoeC.nil | exact Coe.c CoeC.z | exact .nil | apply Coe.tup | apply CoeA.cons)), rfl⟩
        | true =>
          go_simp
          (repeat (simp (disch := omega) only [dT, dF, nT, nF, wA, wB, wC, wD]; try go_simp))
          (repeat (refine ⟨by (repeat' apply And.intro) <;> first | omega | trivial | assumption | decide, ?_⟩))
          refine callV (ints_fx x.fr y.fr L1.out.2.1 L2.out.2.1) rfl ?_
          go_simp
          (repeat (simp (disch := omega) only [dT, dF, nT, nF, wA, wB, wC, wD]; try go_simp))
          (repeat (refine ⟨by (repeat' apply And.intro) <;> first | omega | trivial | assumption | decide, ?_⟩))
          cases b2 with
          | false =>
            go_simp
            (repeat (simp (disch := omega) only [dT, dF, nT, nF, wA, wB, wC, wD]; try go_simp))
            (repeat (refine ⟨by (repeat' apply And.intro) <;> first | omega | trivial | assumption | decide, ?_⟩))
            (repeat' (first | refine awp_block ?_ | ((first | refine awp_tk [] (by kernel_rfl) (fun K hK => ?_) | refine awp_dk [] mixed (by kernel_rfl) (by kernel_rfl) (fun K hK => ?_)); go_simp; (repeat (simp (disch := omega) only [dT, dF, nT, nF, wA, wB, wC, wD]; try go_simp)); (repeat (refine ⟨by (repeat' apply And.intro) <;> first | omega | trivial | assumption | decide, ?_⟩)); (first | (refine hK _ ?_; clear hK K) | (clear hK K; refine hK _ ?_; clear hK K) | (clear hK K; clear hK K; refine hK _ ?_; clear hK K) | (clear hK K; clear hK K; clear hK K; refine hK _ ?_; clear hK K))) | refine awp_ct rfl ?_ | refine awp_cf rfl ?_ | (first | (refine awp_skip (hK _ ?_); clear hK K) | (clear hK K; refine awp_skip (hK _ ?_); clear hK K) | (clear hK K; clear hK K; refine awp_skip (hK _ ?_); clear hK K) | (clear hK K; clear hK K; clear hK K; refine awp_skip (hK _ ?_); clear hK K)) | refine awp_seqk (fun K hK => ?_) | ((first | refine awp_t [] (by kernel_rfl) ?_ | refine awp_d [] mixed (by kernel_rfl) (by kernel_rfl) ?_); go_simp; (repeat (simp (disch := omega) only [dT, dF, nT, nF, wA, wB, wC, wD]; try go_simp)); (repeat (refine ⟨by (repeat' apply And.intro) <;> first | omega | trivial | assumption | decide, ?_⟩))) | (first | (refine hK _ ?_; clear hK K) | (clear hK K; refine hK _ ?_; clear hK K) | (clear hK K; clear hK K; refine hK _ ?_; clear hK K) | (clear hK K; clear hK K; clear hK K; refine hK _ ?_; clear hK K)) | (refine awp_exit ?_; simp only [thenA_exit, inBlk_exit, thenA_normal, inBlk_normal, ↓reduceIte, Nat.reduceEqDiff])))
            rw [NO.out (fun h => of_decide_eq_false e2 (by rw [h]))]
            exact awp_ret ⟨_, (by repeat' (first | exact .nil | exact .tmp _ _ rfl | apply ResL.cons)), (by repeat' (first | exact Coe.refl _ | exact Coe.c CoeC.nil | exact Coe.c CoeC.z | exact .nil | apply Coe.tup | apply CoeA.cons)), rfl⟩
          | true =>
            go_simp
            (repeat (simp (disch := omega) only [dT, dF, nT, nF, wA, wB, wC, wD]; try go_simp))
            (repeat (refine ⟨by (repeat' apply And.intro) <;> first | omega | trivial | assumption | decide, ?_⟩))
            refine callV (ints_fx x.on y.on L1.out.2.2 L2.out.2.2) rfl ?_
            go_simp
            (repeat (simp (disch := omega) only [dT, dF, nT, nF, wA, wB, wC, wD]; try go_simp))
            (repeat (refine ⟨by (repeat' apply And.intro) <;> first | omega | trivial | assumption | decide, ?_⟩))
            cases b3 with
            | false =>
              go_simp
              (repeat (simp (disch := omega) only [dT, dF, nT, nF, wA, wB, wC, wD]; try go_simp))
              (repeat (refine ⟨by (repeat' apply And.intro) <;> first | omega | trivial | assumption | decide, ?_⟩))
              (repeat' (first | refine awp_block ?_ | ((first | refine awp_tk [] (by kernel_rfl) (fun K hK => ?_) | refine awp_dk [] mixed (by kernel_rfl) (by kernel_rfl) (fun K hK => ?_)); go_simp; (repeat (simp (disch := omega) only [dT, dF, nT, nF, wA, wB, wC, wD]; try go_simp)); (repeat (refine ⟨by (repeat' apply And.intro) <;> first | omega | trivial | assumption | decide, ?_⟩)); (first | (refine hK _ ?_; clear hK K) | (clear hK K; refine hK _ ?_; clear hK K) | (clear hK K; clear hK K; refine hK _ ?_; clear hK K) | (clear hK K; clear hK K; clear hK K; refine hK _ ?_; clear hK K))) | refine awp_ct rfl ?_ | refine awp_cf rfl ?_ | (first | (refine awp_skip (hK _ ?_); clear hK K) | (clear hK K; refine awp_skip (hK _ ?_); clear hK K) | (clear hK K; clear hK K; refine awp_skip (hK _ ?_); clear hK K) | (clear hK K; clear hK K; clear hK K; refine awp_skip (hK _ ?_); clear hK K)) | refine awp_seqk (fun K hK => ?_) | ((first | refine awp_t [] (by kernel_rfl) ?_ | refine awp_d [] mixed (by kernel_rfl) (by kernel_rfl) ?_); go_simp; (repeat (simp (disch := omega) only [dT, dF, nT, nF, wA, wB, wC, wD]; try go_simp)); (repeat (refine ⟨by (repeat' apply And.intro) <;> first | omega | trivial | assumption | decide, ?_⟩))) | (first | (refine hK _ ?_; clear hK K) | (clear hK K; refine hK _ ?_; clear hK K) | (clear hK K; clear hK K; refine hK _ ?_; clear hK K) | (clear hK K; clear hK K; clear hK K; refine hK _ ?_; clear hK K)) | (refine awp_exit ?_; simp only [thenA_exit, inBlk_exit, thenA_normal, inBlk_normal, ↓reduceIte, Nat.reduceEqDiff])))
              rw [NO.out (fun h => of_decide_eq_false e3 (by rw [h]))]
              exact awp_ret ⟨_, (by repeat' (first | exact .nil | exact .tmp _ _ rfl | apply ResL.cons)), (by repeat' (first | exact Coe.refl _ | exact Coe.c CoeC.nil | exact Coe.c CoeC.z | exact .nil | apply Coe.tup | apply CoeA.cons)), rfl⟩
            | true =>
              go_simp
              (repeat (simp (disch := omega) only [dT, dF, nT, nF, wA, wB, wC, wD]; try go_simp))
              (repeat (refine ⟨by (repeat' apply And.intro) <;> first | omega | trivial | assumption | decide, ?_⟩))
              (repeat' (first | refine awp_block ?_ | ((first | refine awp_tk [] (by kernel_rfl) (fun K hK => ?_) | refine awp_dk [] mixed (by kernel_rfl) (by kernel_rfl) (fun K hK => ?_)); go_simp; (repeat (simp (disch := omega) only [dT, dF, nT, nF, wA, wB, wC, wD]; try go_simp)); (repeat (refine ⟨by (repeat' apply And.intro) <;> first | omega | trivial | assumption | decide, ?_⟩)); (first | (refine hK _ ?_; clear hK K) | (clear hK K; refine hK _ ?_; clear hK K) | (clear hK K; clear hK K; refine hK _ ?_; clear hK K) | (clear hK K; clear hK K; clear hK K; refine hK _ ?_; clear hK K))) | refine awp_ct rfl ?_ | refine awp_cf rfl ?_ | (first | (refine awp_skip (hK _ ?_); clear hK K) | (clear hK K; refine awp_skip (hK _ ?_); clear hK K) | (clear hK K; clear hK K; refine awp_skip (hK _ ?_); clear hK K) | (clear hK K; clear hK K; clear hK K; refine awp_skip (hK _ ?_); clear hK K)) | refine awp_seqk (fun K hK => ?_) | ((first | refine awp_t [] (by kernel_rfl) ?_ | refine awp_d [] mixed (by kernel_rfl) (by kernel_rfl) ?_); go_simp; (repeat (simp (disch := omega) only [dT, dF, nT, nF, wA, wB, wC, wD]; try go_simp)); (repeat (refine ⟨by (repeat' apply And.intro) <;> first | omega | trivial | assumption | decide, ?_⟩))) | (first | (refine hK _ ?_; clear hK K) | (clear hK K; refine hK _ ?_; clear hK K) | (clear hK K; clear hK K; refine hK _ ?_; clear hK K) | (clear hK K; clear hK K; clear hK K; refine hK _ ?_; clear hK K)) | (refine awp_exit ?_; simp only [thenA_exit, inBlk_exit, thenA_normal, inBlk_normal, ↓reduceIte, Nat.reduceEqDiff])))
              refine hR _ _ ?_ ⟨k + 1, by omega, ?_, rfl⟩ ?_
              · refine weak_w (by repeat' (first | exact trivial | exact Coe.refl _ | exact Coe.c CoeC.nil | apply And.intro)) (by repeat' (first | exact trivial | rfl | apply And.intro)) rfl rfl (by repeat' (first | exact trivial | (intro h; first | rfl | (exfalso; omega)) | apply And.intro))
              · rw [List.take_succ_eq_append_getElem hla, List.take_succ_eq_append_getElem hlb, HT.out, HX.out, HY.out, step_eq (of_decide_eq_true e1) (of_decide_eq_true e2) (of_decide_eq_true e3)]
              · simp [nat, sget]; omega
      · have e : decide (A = B) = true := decide_eq_true (by
          have := HT.out
          rwa [List.take_of_length_le (by omega), List.take_of_length_le (by omega)] at this)
        (repeat' (first | refine awp_block ?_ | ((first | refine awp_tk [] (by kernel_rfl) (fun K hK => ?_) | refine awp_dk [] mixed (by kernel_rfl) (by kernel_rfl) (fun K hK => ?_)); go_simp; (repeat (simp (disch := omega) only [dT, dF, nT, nF, wA, wB, wC, wD]; try go_simp)); (repeat (refine ⟨by (repeat' apply And.intro) <;> first | omega | trivial | assumption | decide, ?_⟩)); (first | (refine hK _ ?_; clear hK K) | (clear hK K; refine hK _ ?_; clear hK K) | (clear hK K; clear hK K; refine hK _ ?_; clear hK K) | (clear hK K; clear hK K; clear hK K; refine hK _ ?_; clear hK K))) | refine awp_ct rfl ?_ | refine awp_cf rfl ?_ | (first | (refine awp_skip (hK _ ?_); clear hK K) | (clear hK K; refine awp_skip (hK _ ?_); clear hK K) | (clear hK K; clear hK K; refine awp_skip (hK _ ?_); clear hK K) | (clear hK K; clear hK K; clear hK K; refine awp_skip (hK _ ?_); clear hK K)) | refine awp_seqk (fun K hK => ?_) | ((first | refine awp_t [] (by kernel_rfl) ?_ | refine awp_d [] mixed (by kernel_rfl) (by kernel_rfl) ?_); go_simp; (repeat (simp (disch := omega) only [dT, dF, nT, nF, wA, wB, wC, wD]; try go_simp)); (repeat (refine ⟨by (repeat' apply And.intro) <;> first | omega | trivial | assumption | decide, ?_⟩))) | (first | (refine hK _ ?_; clear hK K) | (clear hK K; refine hK _ ?_; clear hK K) | (clear hK K; clear hK K; refine hK _ ?_; clear hK K) | (clear hK K; clear hK K; clear hK K; refine hK _ ?_; clear hK K)) | (refine awp_exit ?_; simp only [thenA_exit, inBlk_exit, thenA_normal, inBlk_normal, ↓reduceIte, Nat.reduceEqDiff])))
        rw [e]
        exact awp_ret ⟨_, (by repeat' (first | exact .nil | exact .tmp _ _ rfl | apply ResL.cons)), (by repeat' (first | exact Coe.refl _ | exact Coe.c CoeC.nil | exact Coe.c CoeC.z | exact .nil | apply Coe.tup | apply CoeA.cons)), rfl⟩
  · have e : decide (A = B) = false := decide_eq_false (fun h => h1 (by rw [h]))
    (repeat' (first | refine awp_block ?_ | ((first | refine awp_tk [] (by kernel_rfl) (fun K hK => ?_) | refine awp_dk [] mixed (by kernel_rfl) (by kernel_rfl) (fun K hK => ?_)); go_simp; (repeat (simp (disch := omega) only [dT, dF, nT, nF, wA, wB, wC, wD]; try go_simp)); (repeat (refine ⟨by (repeat' apply And.intro) <;> first | omega | trivial | assumption | decide, ?_⟩)); (first | (refine hK _ ?_; clear hK K) | (clear hK K; refine hK _ ?_; clear hK K) | (clear hK K; clear hK K; refine hK _ ?_; clear hK K) | (clear hK K; clear hK K; clear hK K; refine hK _ ?_; clear hK K))) | refine awp_ct rfl ?_ | refine awp_cf rfl ?_ | (first | (refine awp_skip (hK _ ?_); clear hK K) | (clear hK K; refine awp_skip (hK _ ?_); clear hK K) | (clear hK K; clear hK K; refine awp_skip (hK _ ?_); clear hK K) | (clear hK K; clear hK K; clear hK K; refine awp_skip (hK _ ?_); clear hK K)) | refine awp_seqk (fun K hK => ?_) | ((first | refine awp_t [] (by kernel_rfl) ?_ | refine awp_d [] mixed (by kernel_rfl) (by kernel_rfl) ?_); go_simp; (repeat (simp (disch := omega) only [dT, dF, nT, nF, wA, wB, wC, wD]; try go_simp)); (repeat (refine ⟨by (repeat' apply And.intro) <;> first | omega | trivial | assumption | decide, ?_⟩))) | (first | (refine hK _ ?_; clear hK K) | (clear hK K; refine hK _ ?_; clear hK K) | (clear hK K; clear hK K; refine hK _ ?_; clear hK K) | (clear hK K; clear hK K; clear hK K; refine hK _ ?_; clear hK K)) | (refine awp_exit ?_; simp only [thenA_exit, inBlk_exit, thenA_normal, inBlk_normal, ↓reduceIte, Nat.reduceEqDiff])))
    rw [e]
    exact awp_ret ⟨_, (by repeat' (first | exact .nil | exact .tmp _ _ rfl | apply ResL.cons)), (by repeat' (first | exact Coe.refl _ | exact Coe.c CoeC.nil | exact Coe.c CoeC.z | exact .nil | apply Coe.tup | apply CoeA.cons)), rfl⟩
theorem clone_fx (c : List Int) (hl : c.length ≤ 1000000) : FxPure Try.prog 29 [.c (.t (.s (c.map intR)))] (.c (.t (.s (c.map intR)))) := by
  refine fx_pure 8 Try.func29 rfl rfl rfl rfl (fun hlen => ?_)
  clear hlen
  cases c with
  | nil =>
    (repeat' (first | refine awp_block ?_ | ((first | refine awp_tk [7] (by kernel_rfl) (fun K hK => ?_) | refine awp_dk [7] mixed (by kernel_rfl) (by kernel_rfl) (fun K hK => ?_)); go_simp; (repeat (simp (disch := omega) only [dT, dF, nT, nF, wA, wB, wC, wD]; try go_simp)); (repeat (refine ⟨by (repeat' apply And.intro) <;> first | omega | trivial | assumption | decide, ?_⟩)); (first | (refine hK _ ?_; clear hK K) | (clear hK K; refine hK _ ?_; clear hK K) | (clear hK K; clear hK K; refine hK _ ?_; clear hK K) | (clear hK K; clear hK K; clear hK K; refine hK _ ?_; clear hK K))) | refine awp_ct rfl ?_ | refine awp_cf rfl ?_ | (first | (refine awp_skip (hK _ ?_); clear hK K) | (clear hK K; refine awp_skip (hK _ ?_); clear hK K) | (clear hK K; clear hK K; refine awp_skip (hK _ ?_); clear hK K) | (clear hK K; clear hK K; clear hK K; refine awp_skip (hK _ ?_); clear hK K)) | refine awp_seqk (fun K hK => ?_) | ((first | refine awp_t [7] (by kernel_rfl) ?_ | refine awp_d [7] mixed (by kernel_rfl) (by kernel_rfl) ?_); go_simp; (repeat (simp (disch := omega) only [dT, dF, nT, nF, wA, wB, wC, wD]; try go_simp)); (repeat (refine ⟨by (repeat' apply And.intro) <;> first | omega | trivial | assumption | decide, ?_⟩))) | (first | (refine hK _ ?_; clear hK K) | (clear hK K; refine hK _ ?_; clear hK K) | (clear hK K; clear hK K; refine hK _ ?_; clear hK K) | (clear hK K; clear hK K; clear hK K; refine hK _ ?_; clear hK K)) | (refine awp_exit ?_; simp only [thenA_exit, inBlk_exit, thenA_normal, inBlk_normal, ↓reduceIte, Nat.reduceEqDiff])))
    refine awp_any2 rfl ?_ ?_
    · (repeat' (first | refine awp_block ?_ | ((first | refine awp_tk [7] (by kernel_rfl) (fun K hK => ?_) | refine awp_dk [7] mixed (by kernel_rfl) (by kernel_rfl) (fun K hK => ?_)); go_simp; (repeat (simp (disch := omega) only [dT, dF, nT, nF, wA, wB, wC, wD]; try go_simp)); (repeat (refine ⟨by (repeat' apply And.intro) <;> first | omega | trivial | assumption | decide, ?_⟩)); (first | (refine hK _ ?_; clear hK K) | (clear hK K; refine hK _ ?_; clear hK K) | (clear hK K; clear hK K; refine hK _ ?_; clear hK K) | (clear hK K; clear hK K; clear hK K; refine hK _ ?_; clear hK K))) | refine awp_ct rfl ?_ | refine awp_cf rfl ?_ | (first | (refine awp_skip (hK _ ?_); clear hK K) | (clear hK K; refine awp_skip (hK _ ?_); clear hK K) | (clear hK K; clear hK K; refine awp_skip (hK _ ?_); clear hK K) | (clear hK K; clear hK K; clear hK K; refine awp_skip (hK _ ?_); clear hK K)) | refine awp_seqk (fun K hK => ?_) | ((first | refine awp_t [7] (by kernel_rfl) ?_ | refine awp_d [7] mixed (by kernel_rfl) (by kernel_rfl) ?_); go_simp; (repeat (simp (disch := omega) only [dT, dF, nT, nF, wA, wB, wC, wD]; try go_simp)); (repeat (refine ⟨by (repeat' apply And.intro) <;> first | omega | trivial | assumption | decide, ?_⟩))) | (first | (refine hK _ ?_; clear hK K) | (clear hK K; refine hK _ ?_; clear hK K) | (clear hK K; clear hK K; refine hK _ ?_; clear hK K) | (clear hK K; clear hK K; clear hK K; refine hK _ ?_; clear hK K)) | (refine awp_exit ?_; simp only [thenA_exit, inBlk_exit, thenA_normal, inBlk_normal, ↓reduceIte, Nat.reduceEqDiff])))
      exact awp_ret ⟨_, (by repeat' (first | exact .nil | exact .tmp _ _ rfl | apply ResL.cons)), (by repeat' (first | exact Coe.refl _ | exact Coe.c CoeC.nil | exact Coe.c CoeC.z | exact .nil | apply Coe.tup | apply CoeA.cons)), rfl⟩
    · (repeat' (first | refine awp_block ?_ | ((first | refine awp_tk [7] (by kernel_rfl) (fun K hK => ?_) | refine awp_dk [7] mixed (by kernel_rfl) (by kernel_rfl) (fun K hK => ?_)); go_simp; (repeat (simp (disch := omega) only [dT, dF, nT, nF, wA, wB, wC, wD]; try go_simp)); (repeat (refine ⟨by (repeat' apply And.intro) <;> first | omega | trivial | assumption | decide, ?_⟩)); (first | (refine hK _ ?_; clear hK K) | (clear hK K; refine hK _ ?_; clear hK K) | (clear hK K; clear hK K; refine hK _ ?_; clear hK K) | (clear hK K; clear hK K; clear hK K; refine hK _ ?_; clear hK K))) | refine awp_ct rfl ?_ | refine awp_cf rfl ?_ | (first | (refine awp_skip (hK _ ?_); clear hK K) | (clear hK K; refine awp_skip (hK _ ?_); clear hK K) | (clear hK K; clear hK K; refine awp_skip (hK _ ?_); clear hK K) | (clear hK K; clear hK K; clear hK K; refine awp_skip (hK _ ?_); clear hK K)) | refine awp_seqk (fun K hK => ?_) | ((first | refine awp_t [7] (by kernel_rfl) ?_ | refine awp_d [7] mixed (by kernel_rfl) (by kernel_rfl) ?_); go_simp; (repeat (simp (disch := omega) only [dT, dF, nT, nF, wA, wB, wC, wD]; try go_simp)); (repeat (refine ⟨by (repeat' apply And.intro) <;> first | omega | trivial | assumption | decide, ?_⟩))) | (first | (refine hK _ ?_; clear hK K) | (clear hK K; refine hK _ ?_; clear hK K) | (clear hK K; clear hK K; refine hK _ ?_; clear hK K) | (clear hK K; clear hK K; clear hK K; refine hK _ ?_; clear hK K)) | (refine awp_exit ?_; simp only [thenA_exit, inBlk_exit, thenA_normal, inBlk_normal, ↓reduceIte, Nat.reduceEqDiff])))
      exact awp_ret ⟨_, (by repeat' (first | exact .nil | exact .tmp _ _ rfl | apply ResL.cons)), (by repeat' (first | exact Coe.refl _ | exact Coe.c CoeC.nil | exact Coe.c CoeC.z | exact .nil | apply Coe.tup | apply CoeA.cons)), rfl⟩
  | cons x t =>
    have ht := map_len intR 1 (fun _ => rfl) t
    simp only [List.length_cons] at hl
    (repeat' (first | refine awp_block ?_ | ((first | refine awp_tk [7] (by kernel_rfl) (fun K hK => ?_) | refine awp_dk [7] mixed (by kernel_rfl) (by kernel_rfl) (fun K hK => ?_)); go_simp; (repeat (simp (disch := omega) only [dT, dF, nT, nF, wA, wB, wC, wD]; try go_simp)); (repeat (refine ⟨by (repeat' apply And.intro) <;> first | omega | trivial | assumption | decide, ?_⟩)); (first | (refine hK _ ?_; clear hK K) | (clear hK K; refine hK _ ?_; clear hK K) | (clear hK K; clear hK K; refine hK _ ?_; clear hK K) | (clear hK K; clear hK K; clear hK K; refine hK _ ?_; clear hK K))) | refine awp_ct rfl ?_ | refine awp_cf rfl ?_ | (first | (refine awp_skip (hK _ ?_); clear hK K) | (clear hK K; refine awp_skip (hK _ ?_); clear hK K) | (clear hK K; clear hK K; refine awp_skip (hK _ ?_); clear hK K) | (clear hK K; clear hK K; clear hK K; refine awp_skip (hK _ ?_); clear hK K)) | refine awp_seqk (fun K hK => ?_) | ((first | refine awp_t [7] (by kernel_rfl) ?_ | refine awp_d [7] mixed (by kernel_rfl) (by kernel_rfl) ?_); go_simp; (repeat (simp (disch := omega) only [dT, dF, nT, nF, wA, wB, wC, wD]; try go_simp)); (repeat (refine ⟨by (repeat' apply And.intro) <;> first | omega | trivial | assumption | decide, ?_⟩))) | (first | (refine hK _ ?_; clear hK K) | (clear hK K; refine hK _ ?_; clear hK K) | (clear hK K; clear hK K; refine hK _ ?_; clear hK K) | (clear hK K; clear hK K; clear hK K; refine hK _ ?_; clear hK K)) | (refine awp_exit ?_; simp only [thenA_exit, inBlk_exit, thenA_normal, inBlk_normal, ↓reduceIte, Nat.reduceEqDiff])))
    exact awp_ret ⟨_, (by repeat' (first | exact .nil | exact .tmp _ _ rfl | apply ResL.cons)), (by repeat' (first | exact Coe.refl _ | exact Coe.c CoeC.nil | exact Coe.c CoeC.z | exact .nil | apply Coe.tup | apply CoeA.cons)), rfl⟩
end Go.Proofs.Ytiimkhnngpfnbaa.Fx
/- The program's Trim on trees. -/
namespace Go.Proofs.Ytiimkhnngpfnbaa.Fx
open Go.RowKit
set_option linter.unusedVariables false
set_option linter.unusedSimpArgs false
set_option maxRecDepth 100000
theorem set_int (ns : List Int) (i : Nat) (x : Int) : (ns.map intR).set i [T.v (.int .i64 x)] = (ns.set i x).map intR := by rw [List.map_set]; rfl
theorem frS_take {many k : Nat} {nm fr : List Int} {q : Nat} (h : q < fr.length) : frS many k nm (fr.take (q + 1)) = frS many k nm (fr.take q) ++ [if okFrom many k fr[q] then nm.getD fr[q].toNat 0 else 0] := by
  rw [List.take_succ_eq_append_getElem h, frS_snoc]
set_option maxHeartbeats 4000000 in
theorem renumber_fx (many : Nat) (L : List StepD) (nm : List Int) (hm : many ≤ 1000000) (hL : L.length ≤ 1000000) (hn : many + L.length + 1 ≤ nm.length) (hnl : nm.length ≤ 10000000) (hsh : ∀ x ∈ L, x.cl.length ≤ 1000000 ∧ x.fr.length ≤ 1000000 ∧ x.on.length ≤ 1000000) (hr : ∀ x ∈ L, InR64 x.fr) :
    FxPure Try.prog 19 [.c (.t (.v (.int .i64 many))), .c (.t (.s (L.map stepR))), .c (.t (.s (nm.map intR)))] (.c (.t (.s ((renTo many nm L L.length).map stepR)))) := by
  refine fx_pure 72 Try.func19 rfl rfl rfl rfl (fun hlen => ?_)
  clear hlen
  have HSH := Lib.hid hsh
  have HRR := Lib.hid hr
  clear hsh hr
  (repeat' (first | refine awp_block ?_ | ((first | refine awp_tk [] (by kernel_rfl) (fun K hK => ?_) | refine awp_dk [] mixed (by kernel_rfl) (by kernel_rfl) (fun K hK => ?_)); go_simp; (repeat (simp (disch := omega) only [dT, dF, nT, nF, wA, wB, wC, wD]; try go_simp)); (repeat (refine ⟨by (repeat' apply And.intro) <;> first | omega | trivial | assumption | decide, ?_⟩)); (first | (refine hK _ ?_; clear hK K) | (clear hK K; refine hK _ ?_; clear hK K) | (clear hK K; clear hK K; refine hK _ ?_; clear hK K) | (clear hK K; clear hK K; clear hK K; refine hK _ ?_; clear hK K))) | refine awp_ct rfl ?_ | refine awp_cf rfl ?_ | (first | (refine awp_skip (hK _ ?_); clear hK K) | (clear hK K; refine awp_skip (hK _ ?_); clear hK K) | (clear hK K; clear hK K; refine awp_skip (hK _ ?_); clear hK K) | (clear hK K; clear hK K; clear hK K; refine awp_skip (hK _ ?_); clear hK K)) | refine awp_seqk (fun K hK => ?_) | ((first | refine awp_t [] (by kernel_rfl) ?_ | refine awp_d [] mixed (by kernel_rfl) (by kernel_rfl) ?_); go_simp; (repeat (simp (disch := omega) only [dT, dF, nT, nF, wA, wB, wC, wD]; try go_simp)); (repeat (refine ⟨by (repeat' apply And.intro) <;> first | omega | trivial | assumption | decide, ?_⟩))) | (first | (refine hK _ ?_; clear hK K) | (clear hK K; refine hK _ ?_; clear hK K) | (clear hK K; clear hK K; refine hK _ ?_; clear hK K) | (clear hK K; clear hK K; clear hK K; refine hK _ ?_; clear hK K)) | (refine awp_exit ?_; simp only [thenA_exit, inBlk_exit, thenA_normal, inBlk_normal, ↓reduceIte, Nat.reduceEqDiff])))
  refine awp_weak (weak_adopt 7 7 42 3 (by decide) (.inl rfl) rfl) ?_
  refine awp_lp (fun s => ∃ k : Nat, ∃ D : List StepD, k ≤ L.length ∧ D = renTo many nm L k ∧ s = ⟨[(0, .c (.t (.v (.int .i64 many)))), (2, .c (.t (.s (nm.map intR)))), (7, .c (.own 7 D.length)), (13, .c (.t (.s (L.map stepR)))), (14, .c (.t (.v (.int .i64 L.length)))), (15, .c (.t (.v (.int .i64 k))))], [(7, .row 42 3 (D.map stepR))]⟩) (fun s => L.length - nat 15 s) _ ?_ ⟨0, [], Nat.zero_le _, rfl, rfl⟩ ?_
  · refine weak_w (by repeat' (first | exact trivial | exact Coe.refl _ | exact Coe.c CoeC.nil | apply And.intro)) (by repeat' (first | exact trivial | rfl | apply And.intro)) rfl rfl (by repeat' (first | exact trivial | (intro h; first | rfl | (exfalso; omega)) | apply And.intro))
  · rintro s R ⟨k, D, hk, hD, rfl⟩ hR
    have HD := Lib.hid hD
    have hdl : D.length ≤ 1000000 := by rw [hD]; have := renTo_len many nm L k; omega
    clear hD
    by_cases hlt : k < L.length
    · have HG := Lib.hid (getD_lt hlt default)
      have HX := Lib.hid (HSH.out _ (List.getElem_mem hlt))
      have HXR := Lib.hid (HRR.out _ (List.getElem_mem hlt))
      obtain ⟨x, hx⟩ : ∃ x, L[k] = x := ⟨_, rfl⟩
      rw [hx] at HX HXR HG
      have hkn : many + k + 1 < nm.length := by omega
      have HN := Lib.hid (getD_lt hkn (0 : Int))
      obtain ⟨y, hy⟩ : ∃ y, nm[many + k + 1] = y := ⟨_, rfl⟩
      rw [hy] at HN
      have HS : Hid (renTo many nm L (k + 1) = renTo many nm L k ++ (if y = 0 then [] else [renS many k nm x])) := Lib.hid (by rw [renTo_succ, HN.out, HG.out])
      have hcast : ((many : Int) + (k : Int) + 1).toNat = many + k + 1 := by omega
      by_cases y0 : y = 0
      · (repeat' (first | refine awp_block ?_ | ((first | refine awp_tk [] (by kernel_rfl) (fun K hK => ?_) | refine awp_dk [] mixed (by kernel_rfl) (by kernel_rfl) (fun K hK => ?_)); go_simp; (repeat (simp (disch := omega) only [dT, dF, nT, nF, wA, wB, wC, wD]; try go_simp)); (repeat (refine ⟨by (repeat' apply And.intro) <;> first | omega | trivial | assumption | decide, ?_⟩)); (first | (refine hK _ ?_; clear hK K) | (clear hK K; refine hK _ ?_; clear hK K) | (clear hK K; clear hK K; refine hK _ ?_; clear hK K) | (clear hK K; clear hK K; clear hK K; refine hK _ ?_; clear hK K))) | refine awp_ct rfl ?_ | refine awp_cf rfl ?_ | (first | (refine awp_skip (hK _ ?_); clear hK K) | (clear hK K; refine awp_skip (hK _ ?_); clear hK K) | (clear hK K; clear hK K; refine awp_skip (hK _ ?_); clear hK K) | (clear hK K; clear hK K; clear hK K; refine awp_skip (hK _ ?_); clear hK K)) | refine awp_seqk (fun K hK => ?_) | ((first | refine awp_t [] (by kernel_rfl) ?_ | refine awp_d [] mixed (by kernel_rfl) (by kernel_rfl) ?_); go_simp; (repeat (simp (disch := omega) only [dT, dF, nT, nF, wA, wB, wC, wD]; try go_simp)); (repeat (refine ⟨by (repeat' apply And.intro) <;> first | omega | trivial | assumption | decide, ?_⟩))) | (first | (refine hK _ ?_; clear hK K) | (clear hK K; refine hK _ ?_; clear hK K) | (clear hK K; clear hK K; refine hK _ ?_; clear hK K) | (clear hK K; clear hK K; clear hK K; refine hK _ ?_; clear hK K)) | (refine awp_exit ?_; simp only [thenA_exit, inBlk_exit, thenA_normal, inBlk_normal, ↓reduceIte, Nat.reduceEqDiff])))
        refine hR _ _ ?_ ⟨k + 1, D, by omega, by rw [HS.out, if_pos y0, List.append_nil]; exact HD.out, rfl⟩ ?_
        · refine weak_w (by repeat' (first | exact trivial | exact Coe.refl _ | exact Coe.c CoeC.nil | apply And.intro)) (by repeat' (first | exact trivial | rfl | apply And.intro)) rfl rfl (by repeat' (first | exact trivial | (intro h; first | rfl | (exfalso; omega)) | apply And.intro))
        · simp [nat, sget]; omega
      · obtain ⟨cl, fr, on⟩ := x
        simp only at HX HXR
        have HX1 := Lib.hid HX.out.2.1
        have hfl := HX.out.2.1
        (repeat' (first | refine awp_block ?_ | ((first | refine awp_tk [] (by kernel_rfl) (fun K hK => ?_) | refine awp_dk [] mixed (by kernel_rfl) (by kernel_rfl) (fun K hK => ?_)); go_simp; (repeat (simp (disch := omega) only [dT, dF, nT, nF, wA, wB, wC, wD]; try go_simp)); (repeat (refine ⟨by (repeat' apply And.intro) <;> first | omega | trivial | assumption | decide, ?_⟩)); (first | (refine hK _ ?_; clear hK K) | (clear hK K; refine hK _ ?_; clear hK K) | (clear hK K; clear hK K; refine hK _ ?_; clear hK K) | (clear hK K; clear hK K; clear hK K; refine hK _ ?_; clear hK K))) | refine awp_ct rfl ?_ | refine awp_cf rfl ?_ | (first | (refine awp_skip (hK _ ?_); clear hK K) | (clear hK K; refine awp_skip (hK _ ?_); clear hK K) | (clear hK K; clear hK K; refine awp_skip (hK _ ?_); clear hK K) | (clear hK K; clear hK K; clear hK K; refine awp_skip (hK _ ?_); clear hK K)) | refine awp_seqk (fun K hK => ?_) | ((first | refine awp_t [] (by kernel_rfl) ?_ | refine awp_d [] mixed (by kernel_rfl) (by kernel_rfl) ?_); go_simp; (repeat (simp (disch := omega) only [dT, dF, nT, nF, wA, wB, wC, wD]; try go_simp)); (repeat (refine ⟨by (repeat' apply And.intro) <;> first | omega | trivial | assumption | decide, ?_⟩))) | (first | (refine hK _ ?_; clear hK K) | (clear hK K; refine hK _ ?_; clear hK K) | (clear hK K; clear hK K; refine hK _ ?_; clear hK K) | (clear hK K; clear hK K; clear hK K; refine hK _ ?_; clear hK K)) | (refine awp_exit ?_; simp only [thenA_exit, inBlk_exit, thenA_normal, inBlk_normal, ↓reduceIte, Nat.reduceEqDiff])))
        refine callV (clone_fx cl HX.out.1) rfl ?_
        go_simp
        (repeat (simp (disch := omega) only [dT, dF, nT, nF, wA, wB, wC, wD]; try go_simp))
        (repeat (refine ⟨by (repeat' apply And.intro) <;> first | omega | trivial | assumption | decide, ?_⟩))
        refine callV (clone_fx on HX.out.2.2) rfl ?_
        go_simp
        (repeat (simp (disch := omega) only [dT, dF, nT, nF, wA, wB, wC, wD]; try go_simp))
        (repeat (refine ⟨by (repeat' apply And.intro) <;> first | omega | trivial | assumption | decide, ?_⟩))
        (repeat' (first | refine awp_block ?_ | ((first | refine awp_tk [] (by kernel_rfl) (fun K hK => ?_) | refine awp_dk [] mixed (by kernel_rfl) (by kernel_rfl) (fun K hK => ?_)); go_simp; (repeat (simp (disch := omega) only [dT, dF, nT, nF, wA, wB, wC, wD]; try go_simp)); (repeat (refine ⟨by (repeat' apply And.intro) <;> first | omega | trivial | assumption | decide, ?_⟩)); (first | (refine hK _ ?_; clear hK K) | (clear hK K; refine hK _ ?_; clear hK K) | (clear hK K; clear hK K; refine hK _ ?_; clear hK K) | (clear hK K; clear hK K; clear hK K; refine hK _ ?_; clear hK K))) | refine awp_ct rfl ?_ | refine awp_cf rfl ?_ | (first | (refine awp_skip (hK _ ?_); clear hK K) | (clear hK K; refine awp_skip (hK _ ?_); clear hK K) | (clear hK K; clear hK K; refine awp_skip (hK _ ?_); clear hK K) | (clear hK K; clear hK K; clear hK K; refine awp_skip (hK _ ?_); clear hK K)) | refine awp_seqk (fun K hK => ?_) | ((first | refine awp_t [] (by kernel_rfl) ?_ | refine awp_d [] mixed (by kernel_rfl) (by kernel_rfl) ?_); go_simp; (repeat (simp (disch := omega) only [dT, dF, nT, nF, wA, wB, wC, wD]; try go_simp)); (repeat (refine ⟨by (repeat' apply And.intro) <;> first | omega | trivial | assumption | decide, ?_⟩))) | (first | (refine hK _ ?_; clear hK K) | (clear hK K; refine hK _ ?_; clear hK K) | (clear hK K; clear hK K; refine hK _ ?_; clear hK K) | (clear hK K; clear hK K; clear hK K; refine hK _ ?_; clear hK K)) | (refine awp_exit ?_; simp only [thenA_exit, inBlk_exit, thenA_normal, inBlk_normal, ↓reduceIte, Nat.reduceEqDiff])))
        refine awp_weak (weak_adoptV 10 1 58 3 1 (by decide) rfl rfl (by simp) rfl (by decide)) ?_
        simp only [hset, List.set, ↓reduceIte, Nat.reduceEqDiff]
        refine awp_lp (fun s => ∃ q : Nat, ∃ F : List Int, q ≤ fr.length ∧ F = frS many k nm (fr.take q) ∧ s = ⟨[(0, .c (.t (.v (.int .i64 many)))), (2, .c (.t (.s (nm.map intR)))), (7, .c (.own 7 D.length)), (8, .c (.t (.v (.int .i64 k)))), (10, .c (.ptr 10 0)), (13, .c (.t (.s (L.map stepR)))), (14, .c (.t (.v (.int .i64 L.length)))), (15, .c (.t (.v (.int .i64 k)))), (36, .c (.t (.s (fr.map intR)))), (37, .c (.t (.v (.int .i64 fr.length)))), (38, .c (.t (.v (.int .i64 q))))], [(7, .row 42 3 (D.map stepR)), (10, .var 42 [.t (.s (cl.map intR)), .own 58 F.length, .t (.s (on.map intR))]), (58, .row 3 1 (F.map intR))]⟩) (fun s => fr.length - nat 38 s) _ ?_ ⟨0, [], Nat.zero_le _, rfl, rfl⟩ ?_
        · refine weak_w (by repeat' (first | exact trivial | exact Coe.refl _ | exact Coe.c CoeC.nil | apply And.intro)) (by repeat' (first | exact trivial | rfl | apply And.intro)) rfl rfl (by repeat' (first | exact trivial | (intro h; first | rfl | (exfalso; omega)) | apply And.intro))
        · rintro s R2 ⟨q, F, hq, hF, rfl⟩ hR2
          have HF := Lib.hid hF
          have hfl2 : F.length ≤ 1000000 := by rw [hF, frS_len, List.length_take]; omega
          clear hF
          by_cases hql : q < fr.length
          · have HFT := Lib.hid (frS_take (many := many) (k := k) (nm := nm) hql)
            have hzr := HXR.out fr[q] (List.getElem_mem hql)
            obtain ⟨z, hz⟩ : ∃ z, fr[q] = z := ⟨_, rfl⟩
            rw [hz] at hzr HFT
            by_cases z1 : z < 1
            · have HOK : Hid (okFrom many k z = false) := Lib.hid (by cases h : okFrom many k z with | false => rfl | true => have := okFrom_iff.1 h; omega)
              (repeat' (first | refine awp_block ?_ | ((first | refine awp_tk [] (by kernel_rfl) (fun K hK => ?_) | refine awp_dk [] mixed (by kernel_rfl) (by kernel_rfl) (fun K hK => ?_)); go_simp; (repeat (simp (disch := omega) only [dT, dF, nT, nF, wA, wB, wC, wD]; try go_simp)); (repeat (refine ⟨by (repeat' apply And.intro) <;> first | omega | trivial | assumption | decide, ?_⟩)); (first | (refine hK _ ?_; clear hK K) | (clear hK K; refine hK _ ?_; clear hK K) | (clear hK K; clear hK K; refine hK _ ?_; clear hK K) | (clear hK K; clear hK K; clear hK K; refine hK _ ?_; clear hK K))) | refine awp_ct rfl ?_ | refine awp_cf rfl ?_ | (first | (refine awp_skip (hK _ ?_); clear hK K) | (clear hK K; refine awp_skip (hK _ ?_); clear hK K) | (clear hK K; clear hK K; refine awp_skip (hK _ ?_); clear hK K) | (clear hK K; clear hK K; clear hK K; refine awp_skip (hK _ ?_); clear hK K)) | refine awp_seqk (fun K hK => ?_) | ((first | refine awp_t [] (by kernel_rfl) ?_ | refine awp_d [] mixed (by kernel_rfl) (by kernel_rfl) ?_); go_simp; (repeat (simp (disch := omega) only [dT, dF, nT, nF, wA, wB, wC, wD]; try go_simp)); (repeat (refine ⟨by (repeat' apply And.intro) <;> first | omega | trivial | assumption | decide, ?_⟩))) | (first | (refine hK _ ?_; clear hK K) | (clear hK K; refine hK _ ?_; clear hK K) | (clear hK K; clear hK K; refine hK _ ?_; clear hK K) | (clear hK K; clear hK K; clear hK K; refine hK _ ?_; clear hK K)) | (refine awp_exit ?_; simp only [thenA_exit, inBlk_exit, thenA_normal, inBlk_normal, ↓reduceIte, Nat.reduceEqDiff])))
              refine hR2 _ _ ?_ ⟨q + 1, F ++ [0], by omega, by rw [HFT.out, HOK.out, HF.out]; rfl, rfl⟩ ?_
              · simp only [List.length_append, List.length_singleton, List.map_append, List.map_cons, List.map_nil, intR]
                refine weak_w (by repeat' (first | exact trivial | exact Coe.refl _ | exact Coe.c CoeC.nil | apply And.intro)) (by repeat' (first | exact trivial | rfl | apply And.intro)) rfl rfl (by repeat' (first | exact trivial | (intro h; first | rfl | (exfalso; omega)) | apply And.intro))
              · simp [nat, sget]; omega
            by_cases z2 : z > (many : Int) + (k : Int)
            · have HOK : Hid (okFrom many k z = false) := Lib.hid (by cases h : okFrom many k z with | false => rfl | true => have := okFrom_iff.1 h; omega)
              (repeat' (first | refine awp_block ?_ | ((first | refine awp_tk [] (by kernel_rfl) (fun K hK => ?_) | refine awp_dk [] mixed (by kernel_rfl) (by kernel_rfl) (fun K hK => ?_)); go_simp; (repeat (simp (disch := omega) only [dT, dF, nT, nF, wA, wB, wC, wD]; try go_simp)); (repeat (refine ⟨by (repeat' apply And.intro) <;> first | omega | trivial | assumption | decide, ?_⟩)); (first | (refine hK _ ?_; clear hK K) | (clear hK K; refine hK _ ?_; clear hK K) | (clear hK K; clear hK K; refine hK _ ?_; clear hK K) | (clear hK K; clear hK K; clear hK K; refine hK _ ?_; clear hK K))) | refine awp_ct rfl ?_ | refine awp_cf rfl ?_ | (first | (refine awp_skip (hK _ ?_); clear hK K) | (clear hK K; refine awp_skip (hK _ ?_); clear hK K) | (clear hK K; clear hK K; refine awp_skip (hK _ ?_); clear hK K) | (clear hK K; clear hK K; clear hK K; refine awp_skip (hK _ ?_); clear hK K)) | refine awp_seqk (fun K hK => ?_) | ((first | refine awp_t [] (by kernel_rfl) ?_ | refine awp_d [] mixed (by kernel_rfl) (by kernel_rfl) ?_); go_simp; (repeat (simp (disch := omega) only [dT, dF, nT, nF, wA, wB, wC, wD]; try go_simp)); (repeat (refine ⟨by (repeat' apply And.intro) <;> first | omega | trivial | assumption | decide, ?_⟩))) | (first | (refine hK _ ?_; clear hK K) | (clear hK K; refine hK _ ?_; clear hK K) | (clear hK K; clear hK K; refine hK _ ?_; clear hK K) | (clear hK K; clear hK K; clear hK K; refine hK _ ?_; clear hK K)) | (refine awp_exit ?_; simp only [thenA_exit, inBlk_exit, thenA_normal, inBlk_normal, ↓reduceIte, Nat.reduceEqDiff])))
              refine hR2 _ _ ?_ ⟨q + 1, F ++ [0], by omega, by rw [HFT.out, HOK.out, HF.out]; rfl, rfl⟩ ?_
              · simp only [List.length_append, List.length_singleton, List.map_append, List.map_cons, List.map_nil, intR]
                refine weak_w (by repeat' (first | exact trivial | exact Coe.refl _ | exact Coe.c CoeC.nil | apply And.intro)) (by repeat' (first | exact trivial | rfl | apply And.intro)) rfl rfl (by repeat' (first | exact trivial | (intro h; first | rfl | (exfalso; omega)) | apply And.intro))
              · simp [nat, sget]; omega
            have HOK : Hid (okFrom many k z = true) := Lib.hid (okFrom_iff.2 ⟨by omega, by omega⟩)
            obtain ⟨m, rfl⟩ : ∃ m : Nat, z = (m : Int) := ⟨z.toNat, by omega⟩
            have hmn : m < nm.length := by omega
            have HM := Lib.hid (getD_lt hmn (0 : Int))
            (repeat' (first | refine awp_block ?_ | ((first | refine awp_tk [] (by kernel_rfl) (fun K hK => ?_) | refine awp_dk [] mixed (by kernel_rfl) (by kernel_rfl) (fun K hK => ?_)); go_simp; (repeat (simp (disch := omega) only [dT, dF, nT, nF, wA, wB, wC, wD]; try go_simp)); (repeat (refine ⟨by (repeat' apply And.intro) <;> first | omega | trivial | assumption | decide, ?_⟩)); (first | (refine hK _ ?_; clear hK K) | (clear hK K; refine hK _ ?_; clear hK K) | (clear hK K; clear hK K; refine hK _ ?_; clear hK K) | (clear hK K; clear hK K; clear hK K; refine hK _ ?_; clear hK K))) | refine awp_ct rfl ?_ | refine awp_cf rfl ?_ | (first | (refine awp_skip (hK _ ?_); clear hK K) | (clear hK K; refine awp_skip (hK _ ?_); clear hK K) | (clear hK K; clear hK K; refine awp_skip (hK _ ?_); clear hK K) | (clear hK K; clear hK K; clear hK K; refine awp_skip (hK _ ?_); clear hK K)) | refine awp_seqk (fun K hK => ?_) | ((first | refine awp_t [] (by kernel_rfl) ?_ | refine awp_d [] mixed (by kernel_rfl) (by kernel_rfl) ?_); go_simp; (repeat (simp (disch := omega) only [dT, dF, nT, nF, wA, wB, wC, wD]; try go_simp)); (repeat (refine ⟨by (repeat' apply And.intro) <;> first | omega | trivial | assumption | decide, ?_⟩))) | (first | (refine hK _ ?_; clear hK K) | (clear hK K; refine hK _ ?_; clear hK K) | (clear hK K; clear hK K; refine hK _ ?_; clear hK K) | (clear hK K; clear hK K; clear hK K; refine hK _ ?_; clear hK K)) | (refine awp_exit ?_; simp only [thenA_exit, inBlk_exit, thenA_normal, inBlk_normal, ↓reduceIte, Nat.reduceEqDiff])))
            refine hR2 _ _ ?_ ⟨q + 1, F ++ [nm[m]], by omega, by rw [HFT.out, HOK.out, HF.out, if_pos rfl, Int.toNat_natCast, HM.out], rfl⟩ ?_
            · simp only [List.length_append, List.length_singleton, List.map_append, List.map_cons, List.map_nil, intR]
              refine weak_w (by repeat' (first | exact trivial | exact Coe.refl _ | exact Coe.c CoeC.nil | apply And.intro)) (by repeat' (first | exact trivial | rfl | apply And.intro)) rfl rfl (by repeat' (first | exact trivial | (intro h; first | rfl | (exfalso; omega)) | apply And.intro))
            · simp [nat, sget]; omega
          · have HF2 : Hid (F = frS many k nm fr) := Lib.hid (by rw [HF.out, List.take_of_length_le (by omega)])
            clear HF hR2
            (repeat' (first | refine awp_block ?_ | ((first | refine awp_tk [] (by kernel_rfl) (fun K hK => ?_) | refine awp_dk [] mixed (by kernel_rfl) (by kernel_rfl) (fun K hK => ?_)); go_simp; (repeat (simp (disch := omega) only [dT, dF, nT, nF, wA, wB, wC, wD]; try go_simp)); (repeat (refine ⟨by (repeat' apply And.intro) <;> first | omega | trivial | assumption | decide, ?_⟩)); (first | (refine hK _ ?_; clear hK K) | (clear hK K; refine hK _ ?_; clear hK K) | (clear hK K; clear hK K; refine hK _ ?_; clear hK K) | (clear hK K; clear hK K; clear hK K; refine hK _ ?_; clear hK K))) | refine awp_ct rfl ?_ | refine awp_cf rfl ?_ | (first | (refine awp_skip (hK _ ?_); clear hK K) | (clear hK K; refine awp_skip (hK _ ?_); clear hK K) | (clear hK K; clear hK K; refine awp_skip (hK _ ?_); clear hK K) | (clear hK K; clear hK K; clear hK K; refine awp_skip (hK _ ?_); clear hK K)) | refine awp_seqk (fun K hK => ?_) | ((first | refine awp_t [] (by kernel_rfl) ?_ | refine awp_d [] mixed (by kernel_rfl) (by kernel_rfl) ?_); go_simp; (repeat (simp (disch := omega) only [dT, dF, nT, nF, wA, wB, wC, wD]; try go_simp)); (repeat (refine ⟨by (repeat' apply And.intro) <;> first | omega | trivial | assumption | decide, ?_⟩))) | (refine awp_exit ?_; simp only [thenA_exit, inBlk_exit, thenA_normal, inBlk_normal, ↓reduceIte, Nat.reduceEqDiff])))
            (first | (refine hK _ ?_; clear hK K) | (clear hK K; refine hK _ ?_; clear hK K) | (clear hK K; clear hK K; refine hK _ ?_; clear hK K) | (clear hK K; clear hK K; clear hK K; refine hK _ ?_; clear hK K))
            clear R2
            refine awp_weak (weak_freeze 58 (by decide) rfl) ?_
            simp only [frzS, frzAV, frzC, frzH, frzO, List.map_cons, List.map_nil, List.length_map, ↓reduceIte, Nat.reduceEqDiff]
            (repeat' (first | refine awp_block ?_ | ((first | refine awp_tk [] (by kernel_rfl) (fun K hK => ?_) | refine awp_dk [] mixed (by kernel_rfl) (by kernel_rfl) (fun K hK => ?_)); go_simp; (repeat (simp (disch := omega) only [dT, dF, nT, nF, wA, wB, wC, wD]; try go_simp)); (repeat (refine ⟨by (repeat' apply And.intro) <;> first | omega | trivial | assumption | decide, ?_⟩)); (first | (refine hK _ ?_; clear hK K) | (clear hK K; refine hK _ ?_; clear hK K) | (clear hK K; clear hK K; refine hK _ ?_; clear hK K) | (clear hK K; clear hK K; clear hK K; refine hK _ ?_; clear hK K))) | refine awp_ct rfl ?_ | refine awp_cf rfl ?_ | (first | (refine awp_skip (hK _ ?_); clear hK K) | (clear hK K; refine awp_skip (hK _ ?_); clear hK K) | (clear hK K; clear hK K; refine awp_skip (hK _ ?_); clear hK K) | (clear hK K; clear hK K; clear hK K; refine awp_skip (hK _ ?_); clear hK K)) | refine awp_seqk (fun K hK => ?_) | ((first | refine awp_t [] (by kernel_rfl) ?_ | refine awp_d [] mixed (by kernel_rfl) (by kernel_rfl) ?_); go_simp; (repeat (simp (disch := omega) only [dT, dF, nT, nF, wA, wB, wC, wD]; try go_simp)); (repeat (refine ⟨by (repeat' apply And.intro) <;> first | omega | trivial | assumption | decide, ?_⟩))) | (first | (refine hK _ ?_; clear hK K) | (clear hK K; refine hK _ ?_; clear hK K) | (clear hK K; clear hK K; refine hK _ ?_; clear hK K) | (clear hK K; clear hK K; clear hK K; refine hK _ ?_; clear hK K)) | (refine awp_exit ?_; simp only [thenA_exit, inBlk_exit, thenA_normal, inBlk_normal, ↓reduceIte, Nat.reduceEqDiff])))
            refine hR _ _ ?_ ⟨k + 1, D ++ [⟨cl, F, on⟩], by omega, ?_, rfl⟩ ?_
            · simp only [List.length_append, List.length_singleton, List.map_append, List.map_cons, List.map_nil, stepR]
              refine weak_w (by repeat' (first | exact trivial | exact Coe.refl _ | exact Coe.c CoeC.nil | apply And.intro)) (by repeat' (first | exact trivial | rfl | apply And.intro)) rfl rfl (by repeat' (first | exact trivial | (intro h; first | rfl | (exfalso; omega)) | apply And.intro))
            · rw [HS.out, if_neg y0, HD.out, HF2.out]; rfl
            · simp [nat, sget]; omega
    · have HD2 : Hid (D = renTo many nm L L.length) := Lib.hid (by rw [HD.out]; congr 1; omega)
      (repeat' (first | refine awp_block ?_ | ((first | refine awp_tk [] (by kernel_rfl) (fun K hK => ?_) | refine awp_dk [] mixed (by kernel_rfl) (by kernel_rfl) (fun K hK => ?_)); go_simp; (repeat (simp (disch := omega) only [dT, dF, nT, nF, wA, wB, wC, wD]; try go_simp)); (repeat (refine ⟨by (repeat' apply And.intro) <;> first | omega | trivial | assumption | decide, ?_⟩)); (first | (refine hK _ ?_; clear hK K) | (clear hK K; refine hK _ ?_; clear hK K) | (clear hK K; clear hK K; refine hK _ ?_; clear hK K) | (clear hK K; clear hK K; clear hK K; refine hK _ ?_; clear hK K))) | refine awp_ct rfl ?_ | refine awp_cf rfl ?_ | (first | (refine awp_skip (hK _ ?_); clear hK K) | (clear hK K; refine awp_skip (hK _ ?_); clear hK K) | (clear hK K; clear hK K; refine awp_skip (hK _ ?_); clear hK K) | (clear hK K; clear hK K; clear hK K; refine awp_skip (hK _ ?_); clear hK K)) | refine awp_seqk (fun K hK => ?_) | ((first | refine awp_t [] (by kernel_rfl) ?_ | refine awp_d [] mixed (by kernel_rfl) (by kernel_rfl) ?_); go_simp; (repeat (simp (disch := omega) only [dT, dF, nT, nF, wA, wB, wC, wD]; try go_simp)); (repeat (refine ⟨by (repeat' apply And.intro) <;> first | omega | trivial | assumption | decide, ?_⟩))) | (first | (refine hK _ ?_; clear hK K) | (clear hK K; refine hK _ ?_; clear hK K) | (clear hK K; clear hK K; refine hK _ ?_; clear hK K) | (clear hK K; clear hK K; clear hK K; refine hK _ ?_; clear hK K)) | (refine awp_exit ?_; simp only [thenA_exit, inBlk_exit, thenA_normal, inBlk_normal, ↓reduceIte, Nat.reduceEqDiff])))
      refine awp_weak (weak_freeze 7 (by decide) rfl) ?_
      simp only [frzS, frzAV, frzC, frzH, frzO, List.map_cons, List.map_nil, List.length_cons, List.length_nil, Nat.zero_add, Nat.reduceAdd, ↓reduceIte, Nat.reduceEqDiff, List.length_map]
      rw [HD2.out]
      exact awp_ret ⟨_, (by repeat' (first | exact .nil | exact .tmp _ _ rfl | apply ResL.cons)), (by repeat' (first | exact Coe.refl _ | exact Coe.c CoeC.nil | exact Coe.c CoeC.z | exact .nil | apply Coe.tup | apply CoeA.cons)), rfl⟩
end Go.Proofs.Ytiimkhnngpfnbaa.Fx
/- The program's Trim on trees. -/
namespace Go.Proofs.Ytiimkhnngpfnbaa.Fx
open Go.RowKit
set_option linter.unusedVariables false
set_option linter.unusedSimpArgs false
set_option maxRecDepth 100000
theorem set_bool' {ms : List Bool} {m : Nat} (h : m < ms.length) : (List.map boolR ms).set m (T.v (.bool true) :: ((Option.map boolR ms[m]?).getD []).tail) = (ms.set m true).map boolR := by
  rw [List.getElem?_eq_getElem h, List.map_set]; rfl
def natS (t : Nat) (s : ASt) : Nat := match sget s.sl t with | .c (.t (.v (.int _ k))) => (k + 1).toNat | _ => 0
@[go_sem] def trimR (p : List StepD × List Int) : AV := .tup [.c (.t (.s (p.1.map stepR))), .c (.t (.s (p.2.map intR)))]
set_option maxHeartbeats 8000000 in
theorem trim_fx (many : Nat) (L : List StepD) (hm : many ≤ 100000) (hL : L.length ≤ 100000) (h0 : 0 < L.length) (hsh : ∀ x ∈ L, x.cl.length ≤ 1000000 ∧ x.fr.length ≤ 1000000 ∧ x.on.length ≤ 1000000) (hr : ∀ x ∈ L, InR64 x.fr) :
    FxPure Try.prog 8 [.c (.t (.v (.int .i64 many))), .c (.t (.s (L.map stepR)))] (trimR (trimV many L)) := by
  refine fx_pure 104 Try.func8 rfl rfl rfl rfl (fun hlen => ?_)
  clear hlen
  have HSH := Lib.hid hsh
  have HRR := Lib.hid hr
  clear hsh hr
  have hN : ((many : Int) + (L.length : Int) + 1).toNat = many + L.length + 1 := by omega
  have hN2 : ((many : Int) + (L.length : Int)).toNat = many + L.length := by omega
  have hst : (List.replicate (many + L.length + 1) [T.v (.bool false)]).set (many + L.length) [T.v (.bool true)] = ((List.replicate (many + L.length + 1) false).set (many + L.length) true).map boolR := by
    rw [List.map_set, List.map_replicate]; rfl
  have HST := Lib.hid hst
  clear hst
  have hne : decide (L = []) = false := decide_eq_false (fun h => by rw [h] at h0; exact absurd h0 (by decide))
  (repeat' (first | refine awp_block ?_ | ((first | refine awp_tk [] (by kernel_rfl) (fun K hK => ?_) | refine awp_dk [] mixed (by kernel_rfl) (by kernel_rfl) (fun K hK => ?_)); go_simp; (repeat (simp (disch := omega) only [dT, dF, nT, nF, wA, wB, wC, wD]; try go_simp)); (repeat (refine ⟨by (repeat' apply And.intro) <;> first | omega | trivial | assumption | decide, ?_⟩)); (first | (refine hK _ ?_; clear hK K) | (clear hK K; refine hK _ ?_; clear hK K) | (clear hK K; clear hK K; refine hK _ ?_; clear hK K) | (clear hK K; clear hK K; clear hK K; refine hK _ ?_; clear hK K))) | refine awp_ct rfl ?_ | refine awp_cf rfl ?_ | (first | (refine awp_skip (hK _ ?_); clear hK K) | (clear hK K; refine awp_skip (hK _ ?_); clear hK K) | (clear hK K; clear hK K; refine awp_skip (hK _ ?_); clear hK K) | (clear hK K; clear hK K; clear hK K; refine awp_skip (hK _ ?_); clear hK K)) | refine awp_seqk (fun K hK => ?_) | ((first | refine awp_t [] (by kernel_rfl) ?_ | refine awp_d [] mixed (by kernel_rfl) (by kernel_rfl) ?_); go_simp; (repeat (simp (disch := omega) only [dT, dF, nT, nF, wA, wB, wC, wD]; try go_simp)); (repeat (refine ⟨by (repeat' apply And.intro) <;> first | omega | trivial | assumption | decide, ?_⟩))) | (first | (refine hK _ ?_; clear hK K) | (clear hK K; refine hK _ ?_; clear hK K) | (clear hK K; clear hK K; refine hK _ ?_; clear hK K) | (clear hK K; clear hK K; clear hK K; refine hK _ ?_; clear hK K)) | (refine awp_exit ?_; simp only [thenA_exit, inBlk_exit, thenA_normal, inBlk_normal, ↓reduceIte, Nat.reduceEqDiff])))
  rw [HST.out]
  clear hN hN2
  refine awp_lp (fun s => ∃ j : Nat, ∃ z : Int, ∃ ns : List Bool, j ≤ L.length ∧ z = (j : Int) - 1 ∧ ns.length = many + L.length + 1 ∧ needD many L j ns = needV many L ∧ s = ⟨[(0, .c (.t (.v (.int .i64 many)))), (1, .c (.t (.s (L.map stepR)))), (6, .c (.own 27 (many + L.length + 1))), (7, .c (.t (.v (.int .i64 z))))], [(27, .row 4 1 (ns.map boolR))]⟩) (fun s => natS 7 s) _ ?_ ⟨L.length, (L.length : Int) - 1, (List.replicate (many + L.length + 1) false).set (many + L.length) true, Nat.le_refl _, rfl, by simp, rfl, rfl⟩ ?_
  · refine weak_w (by repeat' (first | exact trivial | exact Coe.refl _ | exact Coe.c CoeC.nil | apply And.intro)) (by repeat' (first | exact trivial | rfl | apply And.intro)) rfl rfl (by repeat' (first | exact trivial | (intro h; first | rfl | (exfalso; omega)) | apply And.intro))
  · rintro s R ⟨j, z, ns, hj, hz, hnl, hnd, rfl⟩ hR
    have HND := Lib.hid hnd
    clear hnd
    by_cases hz0 : 0 ≤ z
    · obtain ⟨i, rfl⟩ : ∃ i : Nat, z = (i : Int) := ⟨z.toNat, by omega⟩
      have hji : j = i + 1 := by omega
      subst hji
      clear hz
      have hi : i < L.length := by omega
      have HG := Lib.hid (getD_lt hi default)
      have HX := Lib.hid (HSH.out _ (List.getElem_mem hi))
      have HXR := Lib.hid (HRR.out _ (List.getElem_mem hi))
      obtain ⟨x, hx⟩ : ∃ x, L[i] = x := ⟨_, rfl⟩
      rw [hx] at HX HXR HG
      obtain ⟨cl, fr, on⟩ := x
      simp only at HX HXR
      have hfl := HX.out.2.1
      have HN1 : Hid (needD many L (i + 1) ns = needD many L i (fr.foldl (stepN many i) ns)) := Lib.hid (by conv => lhs; unfold needD; rw [HG.out])
      (repeat' (first | refine awp_block ?_ | ((first | refine awp_tk [] (by kernel_rfl) (fun K hK => ?_) | refine awp_dk [] mixed (by kernel_rfl) (by kernel_rfl) (fun K hK => ?_)); go_simp; (repeat (simp (disch := omega) only [dT, dF, nT, nF, wA, wB, wC, wD]; try go_simp)); (repeat (refine ⟨by (repeat' apply And.intro) <;> first | omega | trivial | assumption | decide, ?_⟩)); (first | (refine hK _ ?_; clear hK K) | (clear hK K; refine hK _ ?_; clear hK K) | (clear hK K; clear hK K; refine hK _ ?_; clear hK K) | (clear hK K; clear hK K; clear hK K; refine hK _ ?_; clear hK K))) | refine awp_ct rfl ?_ | refine awp_cf rfl ?_ | (first | (refine awp_skip (hK _ ?_); clear hK K) | (clear hK K; refine awp_skip (hK _ ?_); clear hK K) | (clear hK K; clear hK K; refine awp_skip (hK _ ?_); clear hK K) | (clear hK K; clear hK K; clear hK K; refine awp_skip (hK _ ?_); clear hK K)) | refine awp_seqk (fun K hK => ?_) | ((first | refine awp_t [] (by kernel_rfl) ?_ | refine awp_d [] mixed (by kernel_rfl) (by kernel_rfl) ?_); go_simp; (repeat (simp (disch := omega) only [dT, dF, nT, nF, wA, wB, wC, wD]; try go_simp)); (repeat (refine ⟨by (repeat' apply And.intro) <;> first | omega | trivial | assumption | decide, ?_⟩))) | (first | (refine hK _ ?_; clear hK K) | (clear hK K; refine hK _ ?_; clear hK K) | (clear hK K; clear hK K; refine hK _ ?_; clear hK K) | (clear hK K; clear hK K; clear hK K; refine hK _ ?_; clear hK K)) | (refine awp_exit ?_; simp only [thenA_exit, inBlk_exit, thenA_normal, inBlk_normal, ↓reduceIte, Nat.reduceEqDiff])))
      refine awp_lp (fun s => ∃ q : Nat, ∃ ms : List Bool, q ≤ fr.length ∧ ms = (fr.take q).foldl (stepN many i) ns ∧ ms.length = many + L.length + 1 ∧ s = ⟨[(0, .c (.t (.v (.int .i64 many)))), (1, .c (.t (.s (L.map stepR)))), (6, .c (.own 27 (many + L.length + 1))), (7, .c (.t (.v (.int .i64 i)))), (45, .c (.t (.s (fr.map intR)))), (46, .c (.t (.v (.int .i64 fr.length)))), (47, .c (.t (.v (.int .i64 q))))], [(27, .row 4 1 (ms.map boolR))]⟩) (fun s => fr.length - nat 47 s) _ ?_ ⟨0, ns, Nat.zero_le _, rfl, hnl, rfl⟩ ?_
      · refine weak_w (by repeat' (first | exact trivial | exact Coe.refl _ | exact Coe.c CoeC.nil | apply And.intro)) (by repeat' (first | exact trivial | rfl | apply And.intro)) rfl rfl (by repeat' (first | exact trivial | (intro h; first | rfl | (exfalso; omega)) | apply And.intro))
      · rintro s R2 ⟨q, ms, hq, hms, hml, rfl⟩ hR2
        have HMS := Lib.hid hms
        clear hms
        by_cases hql : q < fr.length
        · have hzr := HXR.out fr[q] (List.getElem_mem hql)
          have HT : Hid ((fr.take (q + 1)).foldl (stepN many i) ns = stepN many i ((fr.take q).foldl (stepN many i) ns) fr[q]) := Lib.hid (by rw [List.take_succ_eq_append_getElem hql, List.foldl_append]; rfl)
          obtain ⟨z, hz⟩ : ∃ z, fr[q] = z := ⟨_, rfl⟩
          rw [hz] at hzr HT
          have hid1 : ((many : Int) + (i : Int) + 1).toNat = many + i + 1 := by omega
          have hlt1 : many + i + 1 < ms.length := by omega
          have HB := Lib.hid (getD_lt hlt1 false)
          obtain ⟨y, hy⟩ : ∃ y, ms[many + i + 1] = y := ⟨_, rfl⟩
          rw [hy] at HB
          have same : (y && okFrom many i z) = false → stepN many i ms z = ms := fun h => by unfold stepN; rw [HB.out, h]; rfl
          have SAME := Lib.hid same
          clear same
          cases y with
          | false =>
            (repeat' (first | refine awp_block ?_ | ((first | refine awp_tk [] (by kernel_rfl) (fun K hK => ?_) | refine awp_dk [] mixed (by kernel_rfl) (by kernel_rfl) (fun K hK => ?_)); go_simp; (repeat (simp (disch := omega) only [dT, dF, nT, nF, wA, wB, wC, wD]; try go_simp)); (repeat (refine ⟨by (repeat' apply And.intro) <;> first | omega | trivial | assumption | decide, ?_⟩)); (first | (refine hK _ ?_; clear hK K) | (clear hK K; refine hK _ ?_; clear hK K) | (clear hK K; clear hK K; refine hK _ ?_; clear hK K) | (clear hK K; clear hK K; clear hK K; refine hK _ ?_; clear hK K))) | refine awp_ct rfl ?_ | refine awp_cf rfl ?_ | (first | (refine awp_skip (hK _ ?_); clear hK K) | (clear hK K; refine awp_skip (hK _ ?_); clear hK K) | (clear hK K; clear hK K; refine awp_skip (hK _ ?_); clear hK K) | (clear hK K; clear hK K; clear hK K; refine awp_skip (hK _ ?_); clear hK K)) | refine awp_seqk (fun K hK => ?_) | ((first | refine awp_t [] (by kernel_rfl) ?_ | refine awp_d [] mixed (by kernel_rfl) (by kernel_rfl) ?_); go_simp; (repeat (simp (disch := omega) only [dT, dF, nT, nF, wA, wB, wC, wD]; try go_simp)); (repeat (refine ⟨by (repeat' apply And.intro) <;> first | omega | trivial | assumption | decide, ?_⟩))) | (first | (refine hK _ ?_; clear hK K) | (clear hK K; refine hK _ ?_; clear hK K) | (clear hK K; clear hK K; refine hK _ ?_; clear hK K) | (clear hK K; clear hK K; clear hK K; refine hK _ ?_; clear hK K)) | (refine awp_exit ?_; simp only [thenA_exit, inBlk_exit, thenA_normal, inBlk_normal, ↓reduceIte, Nat.reduceEqDiff])))
            refine hR2 _ _ ?_ ⟨q + 1, ms, by omega, by rw [HT.out, ← HMS.out, SAME.out rfl], hml, rfl⟩ ?_
            · refine weak_w (by repeat' (first | exact trivial | exact Coe.refl _ | exact Coe.c CoeC.nil | apply And.intro)) (by repeat' (first | exact trivial | rfl | apply And.intro)) rfl rfl (by repeat' (first | exact trivial | (intro h; first | rfl | (exfalso; omega)) | apply And.intro))
            · simp [nat, sget]; omega
          | true =>
            by_cases z1 : z < 1
            · have HO : Hid (okFrom many i z = false) := Lib.hid (by cases h : okFrom many i z with | false => rfl | true => have := okFrom_iff.1 h; omega)
              (repeat' (first | refine awp_block ?_ | ((first | refine awp_tk [] (by kernel_rfl) (fun K hK => ?_) | refine awp_dk [] mixed (by kernel_rfl) (by kernel_rfl) (fun K hK => ?_)); go_simp; (repeat (simp (disch := omega) only [dT, dF, nT, nF, wA, wB, wC, wD]; try go_simp)); (repeat (refine ⟨by (repeat' apply And.intro) <;> first | omega | trivial | assumption | decide, ?_⟩)); (first | (refine hK _ ?_; clear hK K) | (clear hK K; refine hK _ ?_; clear hK K) | (clear hK K; clear hK K; refine hK _ ?_; clear hK K) | (clear hK K; clear hK K; clear hK K; refine hK _ ?_; clear hK K))) | refine awp_ct rfl ?_ | refine awp_cf rfl ?_ | (first | (refine awp_skip (hK _ ?_); clear hK K) | (clear hK K; refine awp_skip (hK _ ?_); clear hK K) | (clear hK K; clear hK K; refine awp_skip (hK _ ?_); clear hK K) | (clear hK K; clear hK K; clear hK K; refine awp_skip (hK _ ?_); clear hK K)) | refine awp_seqk (fun K hK => ?_) | ((first | refine awp_t [] (by kernel_rfl) ?_ | refine awp_d [] mixed (by kernel_rfl) (by kernel_rfl) ?_); go_simp; (repeat (simp (disch := omega) only [dT, dF, nT, nF, wA, wB, wC, wD]; try go_simp)); (repeat (refine ⟨by (repeat' apply And.intro) <;> first | omega | trivial | assumption | decide, ?_⟩))) | (first | (refine hK _ ?_; clear hK K) | (clear hK K; refine hK _ ?_; clear hK K) | (clear hK K; clear hK K; refine hK _ ?_; clear hK K) | (clear hK K; clear hK K; clear hK K; refine hK _ ?_; clear hK K)) | (refine awp_exit ?_; simp only [thenA_exit, inBlk_exit, thenA_normal, inBlk_normal, ↓reduceIte, Nat.reduceEqDiff])))
              refine hR2 _ _ ?_ ⟨q + 1, ms, by omega, by rw [HT.out, ← HMS.out, SAME.out (by rw [HO.out]; rfl)], hml, rfl⟩ ?_
              · refine weak_w (by repeat' (first | exact trivial | exact Coe.refl _ | exact Coe.c CoeC.nil | apply And.intro)) (by repeat' (first | exact trivial | rfl | apply And.intro)) rfl rfl (by repeat' (first | exact trivial | (intro h; first | rfl | (exfalso; omega)) | apply And.intro))
              · simp [nat, sget]; omega
            by_cases z2 : z > (many : Int) + (i : Int)
            · have HO : Hid (okFrom many i z = false) := Lib.hid (by cases h : okFrom many i z with | false => rfl | true => have := okFrom_iff.1 h; omega)
              (repeat' (first | refine awp_block ?_ | ((first | refine awp_tk [] (by kernel_rfl) (fun K hK => ?_) | refine awp_dk [] mixed (by kernel_rfl) (by kernel_rfl) (fun K hK => ?_)); go_simp; (repeat (simp (disch := omega) only [dT, dF, nT, nF, wA, wB, wC, wD]; try go_simp)); (repeat (refine ⟨by (repeat' apply And.intro) <;> first | omega | trivial | assumption | decide, ?_⟩)); (first | (refine hK _ ?_; clear hK K) | (clear hK K; refine hK _ ?_; clear hK K) | (clear hK K; clear hK K; refine hK _ ?_; clear hK K) | (clear hK K; clear hK K; clear hK K; refine hK _ ?_; clear hK K))) | refine awp_ct rfl ?_ | refine awp_cf rfl ?_ | (first | (refine awp_skip (hK _ ?_); clear hK K) | (clear hK K; refine awp_skip (hK _ ?_); clear hK K) | (clear hK K; clear hK K; refine awp_skip (hK _ ?_); clear hK K) | (clear hK K; clear hK K; clear hK K; refine awp_skip (hK _ ?_); clear hK K)) | refine awp_seqk (fun K hK => ?_) | ((first | refine awp_t [] (by kernel_rfl) ?_ | refine awp_d [] mixed (by kernel_rfl) (by kernel_rfl) ?_); go_simp; (repeat (simp (disch := omega) only [dT, dF, nT, nF, wA, wB, wC, wD]; try go_simp)); (repeat (refine ⟨by (repeat' apply And.intro) <;> first | omega | trivial | assumption | decide, ?_⟩))) | (first | (refine hK _ ?_; clear hK K) | (clear hK K; refine hK _ ?_; clear hK K) | (clear hK K; clear hK K; refine hK _ ?_; clear hK K) | (clear hK K; clear hK K; clear hK K; refine hK _ ?_; clear hK K)) | (refine awp_exit ?_; simp only [thenA_exit, inBlk_exit, thenA_normal, inBlk_normal, ↓reduceIte, Nat.reduceEqDiff])))
              refine hR2 _ _ ?_ ⟨q + 1, ms, by omega, by rw [HT.out, ← HMS.out, SAME.out (by rw [HO.out]; rfl)], hml, rfl⟩ ?_
              · refine weak_w (by repeat' (first | exact trivial | exact Coe.refl _ | exact Coe.c CoeC.nil | apply And.intro)) (by repeat' (first | exact trivial | rfl | apply And.intro)) rfl rfl (by repeat' (first | exact trivial | (intro h; first | rfl | (exfalso; omega)) | apply And.intro))
              · simp [nat, sget]; omega
            have HO : Hid (okFrom many i z = true) := Lib.hid (okFrom_iff.2 ⟨by omega, by omega⟩)
            obtain ⟨m, rfl⟩ : ∃ m : Nat, z = (m : Int) := ⟨z.toNat, by omega⟩
            have hmn : m < ms.length := by omega
            have HS : Hid (stepN many i ms (m : Int) = ms.set m true) := Lib.hid (by unfold stepN; rw [HB.out, HO.out]; simp)
            (repeat' (first | refine awp_block ?_ | ((first | refine awp_tk [] (by kernel_rfl) (fun K hK => ?_) | refine awp_dk [] mixed (by kernel_rfl) (by kernel_rfl) (fun K hK => ?_)); go_simp; (repeat (simp (disch := omega) only [dT, dF, nT, nF, wA, wB, wC, wD]; try go_simp)); (repeat (refine ⟨by (repeat' apply And.intro) <;> first | omega | trivial | assumption | decide, ?_⟩)); (first | (refine hK _ ?_; clear hK K) | (clear hK K; refine hK _ ?_; clear hK K) | (clear hK K; clear hK K; refine hK _ ?_; clear hK K) | (clear hK K; clear hK K; clear hK K; refine hK _ ?_; clear hK K))) | refine awp_ct rfl ?_ | refine awp_cf rfl ?_ | (first | (refine awp_skip (hK _ ?_); clear hK K) | (clear hK K; refine awp_skip (hK _ ?_); clear hK K) | (clear hK K; clear hK K; refine awp_skip (hK _ ?_); clear hK K) | (clear hK K; clear hK K; clear hK K; refine awp_skip (hK _ ?_); clear hK K)) | refine awp_seqk (fun K hK => ?_) | ((first | refine awp_t [] (by kernel_rfl) ?_ | refine awp_d [] mixed (by kernel_rfl) (by kernel_rfl) ?_); go_simp; (repeat (simp (disch := omega) only [dT, dF, nT, nF, wA, wB, wC, wD]; try go_simp)); (repeat (refine ⟨by (repeat' apply And.intro) <;> first | omega | trivial | assumption | decide, ?_⟩))) | (first | (refine hK _ ?_; clear hK K) | (clear hK K; refine hK _ ?_; clear hK K) | (clear hK K; clear hK K; refine hK _ ?_; clear hK K) | (clear hK K; clear hK K; clear hK K; refine hK _ ?_; clear hK K)) | (refine awp_exit ?_; simp only [thenA_exit, inBlk_exit, thenA_normal, inBlk_normal, ↓reduceIte, Nat.reduceEqDiff])))
            rw [set_bool' hmn]
            refine hR2 _ _ ?_ ⟨q + 1, ms.set m true, by omega, by rw [HT.out, ← HMS.out, HS.out], by rw [List.length_set]; exact hml, rfl⟩ ?_
            · refine weak_w (by repeat' (first | exact trivial | exact Coe.refl _ | exact Coe.c CoeC.nil | apply And.intro)) (by repeat' (first | exact trivial | rfl | apply And.intro)) rfl rfl (by repeat' (first | exact trivial | (intro h; first | rfl | (exfalso; omega)) | apply And.intro))
            · simp [nat, sget]; omega
        · have HM2 : Hid (ms = fr.foldl (stepN many i) ns) := Lib.hid (by rw [HMS.out, List.take_of_length_le (by omega)])
          clear HMS hR2
          (repeat' (first | refine awp_block ?_ | ((first | refine awp_tk [] (by kernel_rfl) (fun K hK => ?_) | refine awp_dk [] mixed (by kernel_rfl) (by kernel_rfl) (fun K hK => ?_)); go_simp; (repeat (simp (disch := omega) only [dT, dF, nT, nF, wA, wB, wC, wD]; try go_simp)); (repeat (refine ⟨by (repeat' apply And.intro) <;> first | omega | trivial | assumption | decide, ?_⟩)); (first | (refine hK _ ?_; clear hK K) | (clear hK K; refine hK _ ?_; clear hK K) | (clear hK K; clear hK K; refine hK _ ?_; clear hK K) | (clear hK K; clear hK K; clear hK K; refine hK _ ?_; clear hK K))) | refine awp_ct rfl ?_ | refine awp_cf rfl ?_ | (first | (refine awp_skip (hK _ ?_); clear hK K) | (clear hK K; refine awp_skip (hK _ ?_); clear hK K) | (clear hK K; clear hK K; refine awp_skip (hK _ ?_); clear hK K) | (clear hK K; clear hK K; clear hK K; refine awp_skip (hK _ ?_); clear hK K)) | refine awp_seqk (fun K hK => ?_) | ((first | refine awp_t [] (by kernel_rfl) ?_ | refine awp_d [] mixed (by kernel_rfl) (by kernel_rfl) ?_); go_simp; (repeat (simp (disch := omega) only [dT, dF, nT, nF, wA, wB, wC, wD]; try go_simp)); (repeat (refine ⟨by (repeat' apply And.intro) <;> first | omega | trivial | assumption | decide, ?_⟩))) | (first | (refine hK _ ?_; clear hK K) | (clear hK K; refine hK _ ?_; clear hK K) | (clear hK K; clear hK K; refine hK _ ?_; clear hK K) | (clear hK K; clear hK K; clear hK K; refine hK _ ?_; clear hK K)) | (refine awp_exit ?_; simp only [thenA_exit, inBlk_exit, thenA_normal, inBlk_normal, ↓reduceIte, Nat.reduceEqDiff])))
          refine hR _ _ ?_ ⟨i, (i : Int) - 1, ms, by omega, rfl, hml, by rw [HM2.out, ← HN1.out]; exact HND.out, rfl⟩ ?_
          · refine weak_w (by repeat' (first | exact trivial | exact Coe.refl _ | exact Coe.c CoeC.nil | apply And.intro)) (by repeat' (first | exact trivial | rfl | apply And.intro)) rfl rfl (by repeat' (first | exact trivial | (intro h; first | rfl | (exfalso; omega)) | apply And.intro))
          · first | (simp [natS, sget]; done) | (simp [natS, sget]; omega)
    · have hj0 : j = 0 := by omega
      subst hj0
      have HNS : Hid (ns = needV many L) := Lib.hid (by have := HND.out; unfold needD at this; exact this)
      clear HND hR hz
      obtain ⟨N, hNN⟩ : ∃ N, many + L.length + 1 = N := ⟨_, rfl⟩
      rw [hNN] at hnl ⊢
      have hNb : N ≤ 1000000 := by omega
      have HNN := Lib.hid hNN
      clear hNN
      (repeat' (first | refine awp_block ?_ | ((first | refine awp_tk [] (by kernel_rfl) (fun K hK => ?_) | refine awp_dk [] mixed (by kernel_rfl) (by kernel_rfl) (fun K hK => ?_)); go_simp; (repeat (simp (disch := omega) only [dT, dF, nT, nF, wA, wB, wC, wD]; try go_simp)); (repeat (refine ⟨by (repeat' apply And.intro) <;> first | omega | trivial | assumption | decide, ?_⟩)); (first | (refine hK _ ?_; clear hK K) | (clear hK K; refine hK _ ?_; clear hK K) | (clear hK K; clear hK K; refine hK _ ?_; clear hK K) | (clear hK K; clear hK K; clear hK K; refine hK _ ?_; clear hK K))) | refine awp_ct rfl ?_ | refine awp_cf rfl ?_ | (first | (refine awp_skip (hK _ ?_); clear hK K) | (clear hK K; refine awp_skip (hK _ ?_); clear hK K) | (clear hK K; clear hK K; refine awp_skip (hK _ ?_); clear hK K) | (clear hK K; clear hK K; clear hK K; refine awp_skip (hK _ ?_); clear hK K)) | refine awp_seqk (fun K hK => ?_) | ((first | refine awp_t [] (by kernel_rfl) ?_ | refine awp_d [] mixed (by kernel_rfl) (by kernel_rfl) ?_); go_simp; (repeat (simp (disch := omega) only [dT, dF, nT, nF, wA, wB, wC, wD]; try go_simp)); (repeat (refine ⟨by (repeat' apply And.intro) <;> first | omega | trivial | assumption | decide, ?_⟩))) | (refine awp_exit ?_; simp only [thenA_exit, inBlk_exit, thenA_normal, inBlk_normal, ↓reduceIte, Nat.reduceEqDiff])))
      (first | (refine hK _ ?_; clear hK K) | (clear hK K; refine hK _ ?_; clear hK K) | (clear hK K; clear hK K; refine hK _ ?_; clear hK K) | (clear hK K; clear hK K; clear hK K; refine hK _ ?_; clear hK K))
      clear R
      refine awp_weak (weak_freeze 27 (by decide) rfl) ?_
      simp only [frzS, frzAV, frzC, frzH, frzO, List.map_cons, List.map_nil, List.length_map, hnl, ↓reduceIte, Nat.reduceEqDiff]
      (repeat' (first | refine awp_block ?_ | ((first | refine awp_tk [] (by kernel_rfl) (fun K hK => ?_) | refine awp_dk [] mixed (by kernel_rfl) (by kernel_rfl) (fun K hK => ?_)); go_simp; (repeat (simp (disch := omega) only [dT, dF, nT, nF, wA, wB, wC, wD]; try go_simp)); (repeat (refine ⟨by (repeat' apply And.intro) <;> first | omega | trivial | assumption | decide, ?_⟩)); (first | (refine hK _ ?_; clear hK K) | (clear hK K; refine hK _ ?_; clear hK K) | (clear hK K; clear hK K; refine hK _ ?_; clear hK K) | (clear hK K; clear hK K; clear hK K; refine hK _ ?_; clear hK K))) | refine awp_ct rfl ?_ | refine awp_cf rfl ?_ | (first | (refine awp_skip (hK _ ?_); clear hK K) | (clear hK K; refine awp_skip (hK _ ?_); clear hK K) | (clear hK K; clear hK K; refine awp_skip (hK _ ?_); clear hK K) | (clear hK K; clear hK K; clear hK K; refine awp_skip (hK _ ?_); clear hK K)) | refine awp_seqk (fun K hK => ?_) | ((first | refine awp_t [] (by kernel_rfl) ?_ | refine awp_d [] mixed (by kernel_rfl) (by kernel_rfl) ?_); go_simp; (repeat (simp (disch := omega) only [dT, dF, nT, nF, wA, wB, wC, wD]; try go_simp)); (repeat (refine ⟨by (repeat' apply And.intro) <;> first | omega | trivial | assumption | decide, ?_⟩))) | (first | (refine hK _ ?_; clear hK K) | (clear hK K; refine hK _ ?_; clear hK K) | (clear hK K; clear hK K; refine hK _ ?_; clear hK K) | (clear hK K; clear hK K; clear hK K; refine hK _ ?_; clear hK K)) | (refine awp_exit ?_; simp only [thenA_exit, inBlk_exit, thenA_normal, inBlk_normal, ↓reduceIte, Nat.reduceEqDiff])))
      refine awp_weak (weak_adopt 10 10 3 1 (by decide) (.inl rfl) rfl) ?_
      have h00 : (List.replicate N [T.v (.int .i64 0)]) = (numTo ns 0).map intR := by rw [numTo_zero, hnl, List.map_replicate]; rfl
      have H00 := Lib.hid h00
      clear h00
      simp only [hset, sset, ↓reduceIte, Nat.reduceEqDiff]
      refine awp_lp (fun s => ∃ k : Nat, ∃ U nm : List Int, k ≤ N ∧ U = usedTo many ns k ∧ nm = numTo ns k ∧ s = ⟨[(0, .c (.t (.v (.int .i64 many)))), (1, .c (.t (.s (L.map stepR)))), (10, .c (.own 10 U.length)), (11, .c (.own 75 N)), (12, .c (.t (.v (.int .i64 (cntV ns k : Nat))))), (76, .c (.t (.s (ns.map boolR)))), (77, .c (.t (.v (.int .i64 N)))), (78, .c (.t (.v (.int .i64 k))))], [(10, .row 3 1 (U.map intR)), (75, .row 3 1 (nm.map intR))]⟩) (fun s => N - nat 78 s) _ ?_ ⟨0, [], numTo ns 0, Nat.zero_le _, rfl, rfl, rfl⟩ ?_
      · rw [← H00.out]
        have hc0 : cntV ns 0 = 0 := by simp [cntV]
        rw [hc0]
        refine weak_w (by repeat' (first | exact trivial | exact Coe.refl _ | exact Coe.c CoeC.nil | apply And.intro)) (by repeat' (first | exact trivial | rfl | apply And.intro)) rfl rfl (by repeat' (first | exact trivial | (intro h; first | rfl | (exfalso; omega)) | apply And.intro))
      · rintro s R ⟨k, U, nm, hk, hU, hnm, rfl⟩ hR
        have HU := Lib.hid hU
        have HNM := Lib.hid hnm
        have hul : U.length ≤ 1000000 := by rw [hU]; have := usedTo_len many ns k; omega
        have hnml : nm.length = N := by rw [hnm, numTo_len]; exact hnl
        clear hU hnm
        by_cases hkl : k < N
        · have hkn : k < ns.length := by omega
          have HB := Lib.hid (getD_lt hkn false)
          obtain ⟨y, hy⟩ : ∃ y, ns[k] = y := ⟨_, rfl⟩
          rw [hy] at HB
          have HC := Lib.hid (cntV_succ ns k hkn)
          have hcl : cntV ns k ≤ k := by unfold cntV; exact Nat.le_trans (List.countP_le_length) (by rw [List.length_take]; omega)
          obtain ⟨ct, hct⟩ : ∃ ct, cntV ns k = ct := ⟨_, rfl⟩
          rw [hct] at HC hcl ⊢
          have HCT := Lib.hid hct
          clear hct
          cases y with
          | false =>
            have HU2 : Hid (usedTo many ns (k + 1) = U) := Lib.hid (by rw [usedTo_succ, HB.out, ← HU.out]; simp)
            have HN2 : Hid (numTo ns (k + 1) = nm) := Lib.hid (by rw [numTo_no _ _ HB.out, ← HNM.out])
            have HC2 : Hid (cntV ns (k + 1) = ct) := Lib.hid (by rw [HC.out, HB.out]; simp)
            (repeat' (first | refine awp_block ?_ | ((first | refine awp_tk [] (by kernel_rfl) (fun K hK => ?_) | refine awp_dk [] mixed (by kernel_rfl) (by kernel_rfl) (fun K hK => ?_)); go_simp; (repeat (simp (disch := omega) only [dT, dF, nT, nF, wA, wB, wC, wD]; try go_simp)); (repeat (refine ⟨by (repeat' apply And.intro) <;> first | omega | trivial | assumption | decide, ?_⟩)); (first | (refine hK _ ?_; clear hK K) | (clear hK K; refine hK _ ?_; clear hK K) | (clear hK K; clear hK K; refine hK _ ?_; clear hK K) | (clear hK K; clear hK K; clear hK K; refine hK _ ?_; clear hK K))) | refine awp_ct rfl ?_ | refine awp_cf rfl ?_ | (first | (refine awp_skip (hK _ ?_); clear hK K) | (clear hK K; refine awp_skip (hK _ ?_); clear hK K) | (clear hK K; clear hK K; refine awp_skip (hK _ ?_); clear hK K) | (clear hK K; clear hK K; clear hK K; refine awp_skip (hK _ ?_); clear hK K)) | refine awp_seqk (fun K hK => ?_) | ((first | refine awp_t [] (by kernel_rfl) ?_ | refine awp_d [] mixed (by kernel_rfl) (by kernel_rfl) ?_); go_simp; (repeat (simp (disch := omega) only [dT, dF, nT, nF, wA, wB, wC, wD]; try go_simp)); (repeat (refine ⟨by (repeat' apply And.intro) <;> first | omega | trivial | assumption | decide, ?_⟩))) | (first | (refine hK _ ?_; clear hK K) | (clear hK K; refine hK _ ?_; clear hK K) | (clear hK K; clear hK K; refine hK _ ?_; clear hK K) | (clear hK K; clear hK K; clear hK K; refine hK _ ?_; clear hK K)) | (refine awp_exit ?_; simp only [thenA_exit, inBlk_exit, thenA_normal, inBlk_normal, ↓reduceIte, Nat.reduceEqDiff])))
            refine hR _ _ ?_ ⟨k + 1, U, nm, by omega, HU2.out.symm, HN2.out.symm, rfl⟩ ?_
            · rw [HC2.out]
              refine weak_w (by repeat' (first | exact trivial | exact Coe.refl _ | exact Coe.c CoeC.nil | apply And.intro)) (by repeat' (first | exact trivial | rfl | apply And.intro)) rfl rfl (by repeat' (first | exact trivial | (intro h; first | rfl | (exfalso; omega)) | apply And.intro))
            · simp [nat, sget]; omega
          | true =>
            have HC2 : Hid (cntV ns (k + 1) = ct + 1) := Lib.hid (by rw [HC.out, HB.out]; simp)
            have HN2 : Hid (numTo ns (k + 1) = nm.set k ((ct + 1 : Nat) : Int)) := Lib.hid (by rw [numTo_yes _ _ hkn HB.out, HC2.out, ← HNM.out])
            have hknm : k < nm.length := by omega
            by_cases hkm : k ≤ many
            · have HU2 : Hid (usedTo many ns (k + 1) = U ++ [(k : Int)]) := Lib.hid (by rw [usedTo_succ, HB.out, ← HU.out, decide_eq_true hkm]; simp)
              (repeat' (first | refine awp_block ?_ | ((first | refine awp_tk [] (by kernel_rfl) (fun K hK => ?_) | refine awp_dk [] mixed (by kernel_rfl) (by kernel_rfl) (fun K hK => ?_)); go_simp; (repeat (simp (disch := omega) only [dT, dF, nT, nF, wA, wB, wC, wD]; try go_simp)); (repeat (refine ⟨by (repeat' apply And.intro) <;> first | omega | trivial | assumption | decide, ?_⟩)); (first | (refine hK _ ?_; clear hK K) | (clear hK K; refine hK _ ?_; clear hK K) | (clear hK K; clear hK K; refine hK _ ?_; clear hK K) | (clear hK K; clear hK K; clear hK K; refine hK _ ?_; clear hK K))) | refine awp_ct rfl ?_ | refine awp_cf rfl ?_ | (first | (refine awp_skip (hK _ ?_); clear hK K) | (clear hK K; refine awp_skip (hK _ ?_); clear hK K) | (clear hK K; clear hK K; refine awp_skip (hK _ ?_); clear hK K) | (clear hK K; clear hK K; clear hK K; refine awp_skip (hK _ ?_); clear hK K)) | refine awp_seqk (fun K hK => ?_) | ((first | refine awp_t [] (by kernel_rfl) ?_ | refine awp_d [] mixed (by kernel_rfl) (by kernel_rfl) ?_); go_simp; (repeat (simp (disch := omega) only [dT, dF, nT, nF, wA, wB, wC, wD]; try go_simp)); (repeat (refine ⟨by (repeat' apply And.intro) <;> first | omega | trivial | assumption | decide, ?_⟩))) | (first | (refine hK _ ?_; clear hK K) | (clear hK K; refine hK _ ?_; clear hK K) | (clear hK K; clear hK K; refine hK _ ?_; clear hK K) | (clear hK K; clear hK K; clear hK K; refine hK _ ?_; clear hK K)) | (refine awp_exit ?_; simp only [thenA_exit, inBlk_exit, thenA_normal, inBlk_normal, ↓reduceIte, Nat.reduceEqDiff])))
              rw [set_int]
              refine hR _ _ ?_ ⟨k + 1, U ++ [(k : Int)], nm.set k ((ct : Int) + 1), by omega, HU2.out.symm, by rw [HN2.out]; rfl, rfl⟩ ?_
              · rw [HC2.out]
                simp only [List.length_append, List.length_singleton, List.map_append, List.map_cons, List.map_nil, intR, Int.natCast_add, Int.cast_ofNat_Int]
                refine weak_w (by repeat' (first | exact trivial | exact Coe.refl _ | exact Coe.c CoeC.nil | apply And.intro)) (by repeat' (first | exact trivial | rfl | apply And.intro)) rfl rfl (by repeat' (first | exact trivial | (intro h; first | rfl | (exfalso; omega)) | apply And.intro))
              · simp [nat, sget]; omega
            · have HU2 : Hid (usedTo many ns (k + 1) = U) := Lib.hid (by rw [usedTo_succ, HB.out, ← HU.out, decide_eq_false hkm]; simp)
              (repeat' (first | refine awp_block ?_ | ((first | refine awp_tk [] (by kernel_rfl) (fun K hK => ?_) | refine awp_dk [] mixed (by kernel_rfl) (by kernel_rfl) (fun K hK => ?_)); go_simp; (repeat (simp (disch := omega) only [dT, dF, nT, nF, wA, wB, wC, wD]; try go_simp)); (repeat (refine ⟨by (repeat' apply And.intro) <;> first | omega | trivial | assumption | decide, ?_⟩)); (first | (refine hK _ ?_; clear hK K) | (clear hK K; refine hK _ ?_; clear hK K) | (clear hK K; clear hK K; refine hK _ ?_; clear hK K) | (clear hK K; clear hK K; clear hK K; refine hK _ ?_; clear hK K))) | refine awp_ct rfl ?_ | refine awp_cf rfl ?_ | (first | (refine awp_skip (hK _ ?_); clear hK K) | (clear hK K; refine awp_skip (hK _ ?_); clear hK K) | (clear hK K; clear hK K; refine awp_skip (hK _ ?_); clear hK K) | (clear hK K; clear hK K; clear hK K; refine awp_skip (hK _ ?_); clear hK K)) | refine awp_seqk (fun K hK => ?_) | ((first | refine awp_t [] (by kernel_rfl) ?_ | refine awp_d [] mixed (by kernel_rfl) (by kernel_rfl) ?_); go_simp; (repeat (simp (disch := omega) only [dT, dF, nT, nF, wA, wB, wC, wD]; try go_simp)); (repeat (refine ⟨by (repeat' apply And.intro) <;> first | omega | trivial | assumption | decide, ?_⟩))) | (first | (refine hK _ ?_; clear hK K) | (clear hK K; refine hK _ ?_; clear hK K) | (clear hK K; clear hK K; refine hK _ ?_; clear hK K) | (clear hK K; clear hK K; clear hK K; refine hK _ ?_; clear hK K)) | (refine awp_exit ?_; simp only [thenA_exit, inBlk_exit, thenA_normal, inBlk_normal, ↓reduceIte, Nat.reduceEqDiff])))
              rw [set_int]
              refine hR _ _ ?_ ⟨k + 1, U, nm.set k ((ct : Int) + 1), by omega, HU2.out.symm, by rw [HN2.out]; rfl, rfl⟩ ?_
              · rw [HC2.out]
                simp only [Int.natCast_add, Int.cast_ofNat_Int]
                refine weak_w (by repeat' (first | exact trivial | exact Coe.refl _ | exact Coe.c CoeC.nil | apply And.intro)) (by repeat' (first | exact trivial | rfl | apply And.intro)) rfl rfl (by repeat' (first | exact trivial | (intro h; first | rfl | (exfalso; omega)) | apply And.intro))
              · simp [nat, sget]; omega
        · have hkN : k = N := by omega
          subst hkN
          have HU2 : Hid (U = usedV many ns) := Lib.hid (by rw [HU.out, ← hnl]; rfl)
          have HN2 : Hid (nm = numV ns) := Lib.hid (by rw [HNM.out, ← numTo_all, hnl])
          have HTV : Hid (trimV many L = (renTo many (numV ns) L L.length, usedV many ns)) := Lib.hid (by unfold trimV; rw [← HNS.out, renV_all])
          (repeat' (first | refine awp_block ?_ | ((first | refine awp_tk [] (by kernel_rfl) (fun K hK => ?_) | refine awp_dk [] mixed (by kernel_rfl) (by kernel_rfl) (fun K hK => ?_)); go_simp; (repeat (simp (disch := omega) only [dT, dF, nT, nF, wA, wB, wC, wD]; try go_simp)); (repeat (refine ⟨by (repeat' apply And.intro) <;> first | omega | trivial | assumption | decide, ?_⟩)); (first | (refine hK _ ?_; clear hK K) | (clear hK K; refine hK _ ?_; clear hK K) | (clear hK K; clear hK K; refine hK _ ?_; clear hK K) | (clear hK K; clear hK K; clear hK K; refine hK _ ?_; clear hK K))) | refine awp_ct rfl ?_ | refine awp_cf rfl ?_ | (first | (refine awp_skip (hK _ ?_); clear hK K) | (clear hK K; refine awp_skip (hK _ ?_); clear hK K) | (clear hK K; clear hK K; refine awp_skip (hK _ ?_); clear hK K) | (clear hK K; clear hK K; clear hK K; refine awp_skip (hK _ ?_); clear hK K)) | refine awp_seqk (fun K hK => ?_) | ((first | refine awp_t [] (by kernel_rfl) ?_ | refine awp_d [] mixed (by kernel_rfl) (by kernel_rfl) ?_); go_simp; (repeat (simp (disch := omega) only [dT, dF, nT, nF, wA, wB, wC, wD]; try go_simp)); (repeat (refine ⟨by (repeat' apply And.intro) <;> first | omega | trivial | assumption | decide, ?_⟩))) | (refine awp_exit ?_; simp only [thenA_exit, inBlk_exit, thenA_normal, inBlk_normal, ↓reduceIte, Nat.reduceEqDiff])))
          (first | (refine hK _ ?_; clear hK K) | (clear hK K; refine hK _ ?_; clear hK K) | (clear hK K; clear hK K; refine hK _ ?_; clear hK K) | (clear hK K; clear hK K; clear hK K; refine hK _ ?_; clear hK K))
          refine awp_weak (weak_freeze 10 (by decide) rfl) ?_
          simp only [frzS, frzAV, frzC, frzH, frzO, List.map_cons, List.map_nil, List.length_map, ↓reduceIte, Nat.reduceEqDiff]
          refine awp_weak (weak_freeze 75 (by decide) rfl) ?_
          simp only [frzS, frzAV, frzC, frzH, frzO, List.map_cons, List.map_nil, List.length_map, hnml, ↓reduceIte, Nat.reduceEqDiff]
          (repeat' (first | refine awp_block ?_ | ((first | refine awp_tk [] (by kernel_rfl) (fun K hK => ?_) | refine awp_dk [] mixed (by kernel_rfl) (by kernel_rfl) (fun K hK => ?_)); go_simp; (repeat (simp (disch := omega) only [dT, dF, nT, nF, wA, wB, wC, wD]; try go_simp)); (repeat (refine ⟨by (repeat' apply And.intro) <;> first | omega | trivial | assumption | decide, ?_⟩)); (first | (refine hK _ ?_; clear hK K) | (clear hK K; refine hK _ ?_; clear hK K) | (clear hK K; clear hK K; refine hK _ ?_; clear hK K) | (clear hK K; clear hK K; clear hK K; refine hK _ ?_; clear hK K))) | refine awp_ct rfl ?_ | refine awp_cf rfl ?_ | (first | (refine awp_skip (hK _ ?_); clear hK K) | (clear hK K; refine awp_skip (hK _ ?_); clear hK K) | (clear hK K; clear hK K; refine awp_skip (hK _ ?_); clear hK K) | (clear hK K; clear hK K; clear hK K; refine awp_skip (hK _ ?_); clear hK K)) | refine awp_seqk (fun K hK => ?_) | ((first | refine awp_t [] (by kernel_rfl) ?_ | refine awp_d [] mixed (by kernel_rfl) (by kernel_rfl) ?_); go_simp; (repeat (simp (disch := omega) only [dT, dF, nT, nF, wA, wB, wC, wD]; try go_simp)); (repeat (refine ⟨by (repeat' apply And.intro) <;> first | omega | trivial | assumption | decide, ?_⟩))) | (first | (refine hK _ ?_; clear hK K) | (clear hK K; refine hK _ ?_; clear hK K) | (clear hK K; clear hK K; refine hK _ ?_; clear hK K) | (clear hK K; clear hK K; clear hK K; refine hK _ ?_; clear hK K)) | (refine awp_exit ?_; simp only [thenA_exit, inBlk_exit, thenA_normal, inBlk_normal, ↓reduceIte, Nat.reduceEqDiff])))
          refine callV (renumber_fx many L nm (by omega) (by omega) (by have := HNN.out; omega) (by omega) HSH.out HRR.out) rfl ?_
          go_simp
          (repeat (simp (disch := omega) only [dT, dF, nT, nF, wA, wB, wC, wD]; try go_simp))
          (repeat (refine ⟨by (repeat' apply And.intro) <;> first | omega | trivial | assumption | decide, ?_⟩))
          (repeat' (first | refine awp_block ?_ | ((first | refine awp_tk [] (by kernel_rfl) (fun K hK => ?_) | refine awp_dk [] mixed (by kernel_rfl) (by kernel_rfl) (fun K hK => ?_)); go_simp; (repeat (simp (disch := omega) only [dT, dF, nT, nF, wA, wB, wC, wD]; try go_simp)); (repeat (refine ⟨by (repeat' apply And.intro) <;> first | omega | trivial | assumption | decide, ?_⟩)); (first | (refine hK _ ?_; clear hK K) | (clear hK K; refine hK _ ?_; clear hK K) | (clear hK K; clear hK K; refine hK _ ?_; clear hK K) | (clear hK K; clear hK K; clear hK K; refine hK _ ?_; clear hK K))) | refine awp_ct rfl ?_ | refine awp_cf rfl ?_ | (first | (refine awp_skip (hK _ ?_); clear hK K) | (clear hK K; refine awp_skip (hK _ ?_); clear hK K) | (clear hK K; clear hK K; refine awp_skip (hK _ ?_); clear hK K) | (clear hK K; clear hK K; clear hK K; refine awp_skip (hK _ ?_); clear hK K)) | refine awp_seqk (fun K hK => ?_) | ((first | refine awp_t [] (by kernel_rfl) ?_ | refine awp_d [] mixed (by kernel_rfl) (by kernel_rfl) ?_); go_simp; (repeat (simp (disch := omega) only [dT, dF, nT, nF, wA, wB, wC, wD]; try go_simp)); (repeat (refine ⟨by (repeat' apply And.intro) <;> first | omega | trivial | assumption | decide, ?_⟩))) | (first | (refine hK _ ?_; clear hK K) | (clear hK K; refine hK _ ?_; clear hK K) | (clear hK K; clear hK K; refine hK _ ?_; clear hK K) | (clear hK K; clear hK K; clear hK K; refine hK _ ?_; clear hK K)) | (refine awp_exit ?_; simp only [thenA_exit, inBlk_exit, thenA_normal, inBlk_normal, ↓reduceIte, Nat.reduceEqDiff])))
          rw [HTV.out, ← HN2.out, ← HU2.out]
          exact awp_ret ⟨_, (by repeat' (first | exact .nil | exact .tmp _ _ rfl | apply ResL.cons)), (by repeat' (first | exact Coe.refl _ | exact Coe.c CoeC.nil | exact Coe.c CoeC.z | exact .nil | apply Coe.tup | apply CoeA.cons)), rfl⟩
end Go.Proofs.Ytiimkhnngpfnbaa.Fx
/- Steps derived: derive on trees. -/
namespace Go.Proofs.Ytiimkhnngpfnbaa.Fx
open Go.RowKit
set_option linter.unusedVariables false
set_option linter.unusedSimpArgs false
set_option maxRecDepth 100000
theorem inc_len (f : Int → Int) : ∀ (c : List Int) (lo hi : Int), c.Pairwise (fun a b => f a < f b) → (∀ x ∈ c, lo ≤ f x ∧ f x < hi) → lo ≤ hi → (c.length : Int) ≤ hi - lo := by
  intro c
  induction c with
  | nil => intro lo hi _ _ h; simp; omega
  | cons a t ih =>
    intro lo hi hp hb hle
    have ha := hb a List.mem_cons_self
    have h1 := ih (f a + 1) hi (List.pairwise_cons.1 hp).2 (fun x hx => ⟨by have := (List.pairwise_cons.1 hp).1 x hx; omega, (hb x (List.mem_cons_of_mem _ hx)).2⟩) (by omega)
    simp only [List.length_cons]
    push_cast
    omega
/-- a clause over eight variables -/
def Small (c : List Int) : Prop := c.length ≤ 16 ∧ ∀ x ∈ c, x ≠ 0 ∧ -8 ≤ x ∧ x ≤ 8
theorem Small.inL {c : List Int} (h : Small c) : InL c := ⟨by have := h.1; omega, fun x hx => by have := h.2 x hx; omega⟩
theorem Small.inB {c : List Int} (h : Small c) : InB 16 c := ⟨h.1, fun x hx => by have := h.2 x hx; omega⟩
theorem sorted_small {c : List Int} (h : Sorted c) (hb : ∀ x ∈ c, x ≠ 0 ∧ -8 ≤ x ∧ x ≤ 8) : Small c := by
  refine ⟨?_, hb⟩
  have := inc_len (fun x => if x > 0 then 2 * x + 1 else -2 * x) c 2 18 ?_ (fun x hx => by have := hb x hx; split <;> omega) (by omega)
  · omega
  · have hm : ∀ x ∈ c, x ≠ 0 := fun x hx => (hb x hx).1
    unfold Sorted at h
    refine List.Pairwise.imp_of_mem ?_ h
    intro a b ha hb' hab
    have := hm a ha
    have := hm b hb'
    unfold befI varI at hab
    split <;> split <;> omega
theorem joinR_small {A B : List Int} {w : Int} {d : List Int} (hA : Small A) (hB : Small B) (h : joinR A B w = some d) : Small d := by
  have key : ∀ {X Y : List Int}, Small X → Small Y → Small (resL X Y w) := fun hX hY => by
    unfold resL
    refine sorted_small (normL_sorted _) (fun x hx => ?_)
    rw [normL_mem, bothL_mem] at hx
    rcases hx with hx | hx
    · exact hX.2 x hx.1
    · exact hY.2 x hx.1
  unfold joinR at h
  split at h
  · injection h with h; rw [← h]; exact key hA hB
  · split at h
    · injection h with h; rw [← h]; exact key hB hA
    · cases h
def pickI (p : Int) (n : Nat) : Nat := ((IntKind.u64.wrap p).tmod (n : Int)).toNat
theorem u64_range (p : Int) : 0 ≤ IntKind.u64.wrap p ∧ IntKind.u64.wrap p ≤ 18446744073709551615 := by
  unfold IntKind.wrap; simp [IntKind.bits, IntKind.signed]; omega
theorem pickI_spec (p : Int) {n : Nat} (h : 0 < n) : (IntKind.u64.wrap p).tmod (n : Int) = (pickI p n : Nat) ∧ pickI p n < n := by
  have h1 := u64_range p
  have h2 : 0 ≤ (IntKind.u64.wrap p).tmod (n : Int) := Int.tmod_nonneg _ h1.1
  have h3 : (IntKind.u64.wrap p).tmod (n : Int) < (n : Int) := Int.tmod_lt_of_pos _ (by omega)
  unfold pickI
  omega
def pickW (c : Int) (v : Nat) : Nat := 1 + (v + pickI c 8) % 8
/-- the first variable that serves -/
def tryV (A B : List Int) (c : Int) : Nat → Nat → Option (List Int × Nat)
  | 0, _ => none
  | f + 1, v => match joinR A B (pickW c v : Nat) with
    | some d => some (d, pickW c v)
    | none => tryV A B c f (v + 1)
/-- one more step, of what is there -/
def derS (l : List (List Int)) (p : Int × Int × Int) (S : List StepD) : List StepD :=
  match tryV ((clsOf l S).getD (pickI p.1 (clsOf l S).length) []) ((clsOf l S).getD (pickI p.2.1 (clsOf l S).length) []) p.2.2 8 1 with
  | some (d, w) => S ++ [⟨d, [(pickI p.1 (clsOf l S).length : Nat) + 1, (pickI p.2.1 (clsOf l S).length : Nat) + 1], [(w : Nat)]⟩]
  | none => S
def derP (l : List (List Int)) : List (Int × Int × Int) → List StepD → List StepD
  | [], S => S
  | p :: t, S => if (clsOf l S).length = 0 then S else derP l t (derS l p S)
theorem tryV_some {A B : List Int} {c : Int} : ∀ {f v : Nat} {d : List Int} {w : Nat}, tryV A B c f v = some (d, w) → joinR A B (w : Nat) = some d ∧ 1 ≤ w ∧ w ≤ 8 := by
  intro f
  induction f with
  | zero => intro v d w h; cases h
  | succ f ih =>
    intro v d w h
    unfold tryV at h
    split at h
    · rename_i d' hj
      injection h with h
      injection h with h1 h2
      subst h1; subst h2
      exact ⟨hj, by unfold pickW; omega, by unfold pickW; omega⟩
    · exact ih h
theorem der_snoc {l : List (List Int)} {S : List StepD} (h : Der l S) {a b w : Nat} {d : List Int} (ha : a < (clsOf l S).length) (hb : b < (clsOf l S).length) (hj : joinR ((clsOf l S).getD a []) ((clsOf l S).getD b []) (w : Nat) = some d) : Der l (S ++ [⟨d, [(a : Nat) + 1, (b : Nat) + 1], [(w : Nat)]⟩]) := by
  rw [clsOf_len] at ha hb
  have hg : ∀ q, q < l.length + S.length → (l ++ (S ++ [(⟨d, [(a : Nat) + 1, (b : Nat) + 1], [(w : Nat)]⟩ : StepD)]).map (·.cl)).getD q [] = (clsOf l S).getD q [] := fun q hq => by
    unfold clsOf
    rw [List.map_append, ← List.append_assoc, List.getD_eq_getElem?_getD, List.getElem?_append_left (by simpa using hq), ← List.getD_eq_getElem?_getD]
  intro i hi
  rw [List.length_append, List.length_singleton] at hi
  by_cases h1 : i < S.length
  · obtain ⟨a', b', w', c', g1, g2, g3, g4⟩ := h i h1
    refine ⟨a', b', w', c', g1, g2, ?_, ?_⟩
    · rw [List.getD_eq_getElem?_getD, List.getElem?_append_left h1, ← List.getD_eq_getElem?_getD]; exact g3
    · rw [hg a' (by omega), hg b' (by omega)]; exact g4
  · obtain rfl : i = S.length := by omega
    refine ⟨a, b, w, d, by omega, by omega, ?_, ?_⟩
    · rw [List.getD_eq_getElem?_getD, List.getElem?_append_right (Nat.le_refl _)]; simp
    · rw [hg a ha, hg b hb]; exact hj
def pickR (p : Int × Int × Int) : List T := [.v (.int .i64 p.1), .v (.int .i64 p.2.1), .v (.int .i64 p.2.2)]
attribute [go_sem] pickR
theorem derP_at {l : List (List Int)} {ps : List (Int × Int × Int)} {k : Nat} {S : List StepD} (h : k < ps.length) : derP l (ps.drop k) S = if (clsOf l S).length = 0 then S else derP l (ps.drop (k + 1)) (derS l ps[k] S) := by
  rw [List.drop_eq_getElem_cons h]; rfl
theorem clsOf_snoc (l : List (List Int)) (S : List StepD) (x : StepD) : clsOf l (S ++ [x]) = clsOf l S ++ [x.cl] := by unfold clsOf; simp
set_option maxHeartbeats 8000000 in
theorem derive_fx (l : List (List Int)) (ps : List (Int × Int × Int)) (hl : ∀ c ∈ l, Small c) (hn : l.length ≤ 1000) (hm : ps.length ≤ 1000) :
    FxPure Try.prog 14 [.c (.t (.s (l.map intsR))), .c (.t (.s (ps.map pickR)))] (.c (.t (.s ((derP l ps []).map stepR)))) ∧ Der l (derP l ps []) ∧ (∀ c ∈ clsOf l (derP l ps []), Small c) ∧ (derP l ps []).length ≤ ps.length := by
  have inv : ∀ (k : Nat) (S : List StepD), k ≤ ps.length → Der l S → (∀ c ∈ clsOf l S, Small c) → S.length ≤ k → ∀ S', S' = derP l (ps.drop k) S → Der l S' ∧ (∀ c ∈ clsOf l S', Small c) ∧ S'.length ≤ ps.length := by
    intro k
    obtain ⟨q, hq⟩ : ∃ q, ps.length - k = q := ⟨_, rfl⟩
    induction q generalizing k with
    | zero =>
      intro S hk hD hS hl S' hS'
      rw [List.drop_eq_nil_of_le (by omega)] at hS'
      have e : S' = S := hS'
      subst e
      exact ⟨hD, hS, by omega⟩
    | succ q ih =>
      intro S hk hD hS hl S' hS'
      have hkl : k < ps.length := by omega
      rw [derP_at hkl] at hS'
      by_cases h0 : (clsOf l S).length = 0
      · rw [if_pos h0] at hS'
        subst hS'
        exact ⟨hD, hS, by omega⟩
      · rw [if_neg h0] at hS'
        obtain ⟨_, la⟩ := pickI_spec ps[k].1 (show 0 < (clsOf l S).length by omega)
        obtain ⟨_, lb⟩ := pickI_spec ps[k].2.1 (show 0 < (clsOf l S).length by omega)
        have hst : Der l (derS l ps[k] S) ∧ (∀ c ∈ clsOf l (derS l ps[k] S), Small c) ∧ (derS l ps[k] S).length ≤ k + 1 := by
          unfold derS
          cases ht : tryV ((clsOf l S).getD (pickI ps[k].1 (clsOf l S).length) []) ((clsOf l S).getD (pickI ps[k].2.1 (clsOf l S).length) []) ps[k].2.2 8 1 with
          | none => exact ⟨hD, hS, Nat.le_succ_of_le hl⟩
          | some x =>
            obtain ⟨d, w⟩ := x
            obtain ⟨hj, _, _⟩ := tryV_some ht
            refine ⟨der_snoc hD la lb hj, fun c hc => ?_, by simp; omega⟩
            rw [clsOf_snoc] at hc
            rcases List.mem_append.1 hc with h | h
            · exact hS c h
            · rw [List.mem_singleton.1 h]
              refine joinR_small ?_ ?_ hj
              · rw [getD_lt la]; exact hS _ (List.getElem_mem la)
              · rw [getD_lt lb]; exact hS _ (List.getElem_mem lb)
        exact ih (k + 1) (by omega) _ hkl hst.1 hst.2.1 hst.2.2 S' hS'
  have h0 : Der l [] := fun i hi => absurd hi (Nat.not_lt_zero _)
  have h1 : ∀ c ∈ clsOf l [], Small c := fun c hc => hl c (by unfold clsOf at hc; simpa using hc)
  obtain ⟨i1, i2, i3⟩ := inv 0 [] (Nat.zero_le _) h0 h1 (Nat.zero_le _) _ rfl
  rw [List.drop_zero] at i1 i2 i3
  refine ⟨?_, i1, i2, i3⟩
  clear i1 i2 i3 inv h0
  refine fx_pure 97 Try.func14 rfl rfl rfl rfl (fun hlen => ?_)
  clear hlen
  have H1 := Lib.hid h1
  clear h1 hl
  have hl1 := map_len intsR 1 (fun _ => rfl) l
  (repeat' (first | refine awp_block ?_ | ((first | refine awp_tk [] (by kernel_rfl) (fun K hK => ?_) | refine awp_dk [] mixed (by kernel_rfl) (by kernel_rfl) (fun K hK => ?_)); go_simp; (repeat (simp (disch := omega) only [dT, dF, nT, nF, wA, wB, wC, wD]; try go_simp)); (repeat (refine ⟨by (repeat' apply And.intro) <;> first | omega | trivial | assumption | decide, ?_⟩)); (first | (refine hK _ ?_; clear hK K) | (clear hK K; refine hK _ ?_; clear hK K) | (clear hK K; clear hK K; refine hK _ ?_; clear hK K) | (clear hK K; clear hK K; clear hK K; refine hK _ ?_; clear hK K))) | refine awp_ct rfl ?_ | refine awp_cf rfl ?_ | (first | (refine awp_skip (hK _ ?_); clear hK K) | (clear hK K; refine awp_skip (hK _ ?_); clear hK K) | (clear hK K; clear hK K; refine awp_skip (hK _ ?_); clear hK K) | (clear hK K; clear hK K; clear hK K; refine awp_skip (hK _ ?_); clear hK K)) | refine awp_seqk (fun K hK => ?_) | ((first | refine awp_t [] (by kernel_rfl) ?_ | refine awp_d [] mixed (by kernel_rfl) (by kernel_rfl) ?_); go_simp; (repeat (simp (disch := omega) only [dT, dF, nT, nF, wA, wB, wC, wD]; try go_simp)); (repeat (refine ⟨by (repeat' apply And.intro) <;> first | omega | trivial | assumption | decide, ?_⟩))) | (first | (refine hK _ ?_; clear hK K) | (clear hK K; refine hK _ ?_; clear hK K) | (clear hK K; clear hK K; refine hK _ ?_; clear hK K) | (clear hK K; clear hK K; clear hK K; refine hK _ ?_; clear hK K)) | (refine awp_exit ?_; simp only [thenA_exit, inBlk_exit, thenA_normal, inBlk_normal, ↓reduceIte, Nat.reduceEqDiff])))
  clear hl1
  refine awp_weak (weak_adopt 6 6 43 3 (by decide) (.inl rfl) rfl) ?_
  refine awp_lp (fun s => ∃ k : Nat, ∃ S : List StepD, ∃ D : List (List Int), k ≤ ps.length ∧ S.length ≤ k ∧ D = clsOf l S ∧ (∀ c ∈ D, Small c) ∧ derP l (ps.drop k) S = derP l ps [] ∧ s = ⟨[(1, .c (.t (.s (ps.map pickR)))), (5, .c (.own 16 D.length)), (6, .c (.own 6 S.length)), (7, .c (.t (.v (.int .i64 k))))], [(6, .row 43 3 (S.map stepR)), (16, .row 27 1 (D.map intsR))]⟩) (fun s => ps.length - nat 7 s) _ ?_ ⟨0, [], l, Nat.zero_le _, Nat.le_refl _, by simp [clsOf], fun c hc => H1.out c (by unfold clsOf; simpa using hc), rfl, rfl⟩ ?_
  · refine weak_w (by repeat' (first | exact trivial | exact Coe.refl _ | exact Coe.c CoeC.nil | apply And.intro)) (by repeat' (first | exact trivial | rfl | apply And.intro)) rfl rfl (by repeat' (first | exact trivial | (intro h; first | rfl | (exfalso; omega)) | apply And.intro))
  · rintro s R ⟨k, S, D, hk, hs, hD, hsm, hder, rfl⟩ hR
    have HD := Lib.hid hD
    have HSM := Lib.hid hsm
    have HDER := Lib.hid hder
    have hdl : D.length = l.length + S.length := by rw [hD, clsOf_len]
    clear hD hsm hder
    by_cases hlt : k < ps.length
    · have HP := Lib.hid (derP_at (l := l) (S := S) hlt)
      obtain ⟨n, hnn⟩ : ∃ n, D.length = n := ⟨_, rfl⟩
      rw [hnn] at hdl ⊢
      have HNN := Lib.hid hnn
      by_cases hd0 : n = 0
      · have HE : Hid (derP l ps [] = S) := Lib.hid (by rw [← HDER.out, HP.out, ← HD.out, HNN.out, if_pos hd0])
        subst hd0
        clear hdl
        (repeat' (first | refine awp_block ?_ | ((first | refine awp_tk [] (by kernel_rfl) (fun K hK => ?_) | refine awp_dk [] mixed (by kernel_rfl) (by kernel_rfl) (fun K hK => ?_)); go_simp; (repeat (simp (disch := omega) only [dT, dF, nT, nF, wA, wB, wC, wD]; try go_simp)); (repeat (refine ⟨by (repeat' apply And.intro) <;> first | omega | trivial | assumption | decide, ?_⟩)); (first | (refine hK _ ?_; clear hK K) | (clear hK K; refine hK _ ?_; clear hK K) | (clear hK K; clear hK K; refine hK _ ?_; clear hK K) | (clear hK K; clear hK K; clear hK K; refine hK _ ?_; clear hK K))) | refine awp_ct rfl ?_ | refine awp_cf rfl ?_ | (first | (refine awp_skip (hK _ ?_); clear hK K) | (clear hK K; refine awp_skip (hK _ ?_); clear hK K) | (clear hK K; clear hK K; refine awp_skip (hK _ ?_); clear hK K) | (clear hK K; clear hK K; clear hK K; refine awp_skip (hK _ ?_); clear hK K)) | refine awp_seqk (fun K hK => ?_) | ((first | refine awp_t [] (by kernel_rfl) ?_ | refine awp_d [] mixed (by kernel_rfl) (by kernel_rfl) ?_); go_simp; (repeat (simp (disch := omega) only [dT, dF, nT, nF, wA, wB, wC, wD]; try go_simp)); (repeat (refine ⟨by (repeat' apply And.intro) <;> first | omega | trivial | assumption | decide, ?_⟩))) | (refine awp_exit ?_; simp only [thenA_exit, inBlk_exit, thenA_normal, inBlk_normal, ↓reduceIte, Nat.reduceEqDiff])))
        (first | (refine hK _ ?_; clear hK K) | (clear hK K; refine hK _ ?_; clear hK K) | (clear hK K; clear hK K; refine hK _ ?_; clear hK K) | (clear hK K; clear hK K; clear hK K; refine hK _ ?_; clear hK K))
        refine awp_weak (weak_freeze 6 (by decide) rfl) ?_
        simp only [frzS, frzAV, frzC, frzH, frzO, List.map_cons, List.map_nil, List.length_cons, List.length_nil, Nat.zero_add, Nat.reduceAdd, ↓reduceIte, Nat.reduceEqDiff, List.length_map]
        (repeat' (first | refine awp_block ?_ | ((first | refine awp_tk [] (by kernel_rfl) (fun K hK => ?_) | refine awp_dk [] mixed (by kernel_rfl) (by kernel_rfl) (fun K hK => ?_)); go_simp; (repeat (simp (disch := omega) only [dT, dF, nT, nF, wA, wB, wC, wD]; try go_simp)); (repeat (refine ⟨by (repeat' apply And.intro) <;> first | omega | trivial | assumption | decide, ?_⟩)); (first | (refine hK _ ?_; clear hK K) | (clear hK K; refine hK _ ?_; clear hK K) | (clear hK K; clear hK K; refine hK _ ?_; clear hK K) | (clear hK K; clear hK K; clear hK K; refine hK _ ?_; clear hK K))) | refine awp_ct rfl ?_ | refine awp_cf rfl ?_ | (first | (refine awp_skip (hK _ ?_); clear hK K) | (clear hK K; refine awp_skip (hK _ ?_); clear hK K) | (clear hK K; clear hK K; refine awp_skip (hK _ ?_); clear hK K) | (clear hK K; clear hK K; clear hK K; refine awp_skip (hK _ ?_); clear hK K)) | refine awp_seqk (fun K hK => ?_) | ((first | refine awp_t [] (by kernel_rfl) ?_ | refine awp_d [] mixed (by kernel_rfl) (by kernel_rfl) ?_); go_simp; (repeat (simp (disch := omega) only [dT, dF, nT, nF, wA, wB, wC, wD]; try go_simp)); (repeat (refine ⟨by (repeat' apply And.intro) <;> first | omega | trivial | assumption | decide, ?_⟩))) | (first | (refine hK _ ?_; clear hK K) | (clear hK K; refine hK _ ?_; clear hK K) | (clear hK K; clear hK K; refine hK _ ?_; clear hK K) | (clear hK K; clear hK K; clear hK K; refine hK _ ?_; clear hK K)) | (refine awp_exit ?_; simp only [thenA_exit, inBlk_exit, thenA_normal, inBlk_normal, ↓reduceIte, Nat.reduceEqDiff])))
        rw [HE.out]
        exact awp_ret ⟨_, (by repeat' (first | exact .nil | exact .tmp _ _ rfl | apply ResL.cons)), (by repeat' (first | exact Coe.refl _ | exact Coe.c CoeC.nil | exact Coe.c CoeC.z | exact .nil | apply Coe.tup | apply CoeA.cons)), rfl⟩
      · obtain ⟨p, hp⟩ : ∃ p, ps[k] = p := ⟨_, rfl⟩
        rw [hp] at HP
        obtain ⟨pa, pb, pc⟩ := p
        obtain ⟨ea, la⟩ := pickI_spec pa (show 0 < n by omega)
        obtain ⟨eb, lb⟩ := pickI_spec pb (show 0 < n by omega)
        obtain ⟨ia, hia⟩ : ∃ i, pickI pa n = i := ⟨_, rfl⟩
        obtain ⟨ib, hib⟩ : ∃ i, pickI pb n = i := ⟨_, rfl⟩
        rw [hia] at ea la
        rw [hib] at eb lb
        have ra := u64_range pa
        have rb := u64_range pb
        have la2 : ia < D.length := by omega
        have lb2 : ib < D.length := by omega
        have HIA := Lib.hid hia
        have HIB := Lib.hid hib
        have hnb : n ≤ 100000 := by omega
        clear hia hib hdl
        have HA := Lib.hid (HSM.out _ (List.getElem_mem la2))
        have HB := Lib.hid (HSM.out _ (List.getElem_mem lb2))
        have GA := Lib.hid (getD_lt la2 ([] : List Int))
        have GB := Lib.hid (getD_lt lb2 ([] : List Int))
        (repeat' (first | refine awp_block ?_ | ((first | refine awp_tk [] (by kernel_rfl) (fun K hK => ?_) | refine awp_dk [] mixed (by kernel_rfl) (by kernel_rfl) (fun K hK => ?_)); go_simp; (repeat (simp (disch := omega) only [dT, dF, nT, nF, wA, wB, wC, wD]; try go_simp)); (repeat (refine ⟨by (repeat' apply And.intro) <;> first | omega | trivial | assumption | decide, ?_⟩)); (first | (refine hK _ ?_; clear hK K) | (clear hK K; refine hK _ ?_; clear hK K) | (clear hK K; clear hK K; refine hK _ ?_; clear hK K) | (clear hK K; clear hK K; clear hK K; refine hK _ ?_; clear hK K))) | refine awp_ct rfl ?_ | refine awp_cf rfl ?_ | (first | (refine awp_skip (hK _ ?_); clear hK K) | (clear hK K; refine awp_skip (hK _ ?_); clear hK K) | (clear hK K; clear hK K; refine awp_skip (hK _ ?_); clear hK K) | (clear hK K; clear hK K; clear hK K; refine awp_skip (hK _ ?_); clear hK K)) | refine awp_seqk (fun K hK => ?_) | ((first | refine awp_t [] (by kernel_rfl) ?_ | refine awp_d [] mixed (by kernel_rfl) (by kernel_rfl) ?_); go_simp; (repeat (simp (disch := omega) only [dT, dF, nT, nF, wA, wB, wC, wD]; try go_simp)); (repeat (refine ⟨by (repeat' apply And.intro) <;> first | omega | trivial | assumption | decide, ?_⟩))) | (first | (refine hK _ ?_; clear hK K) | (clear hK K; refine hK _ ?_; clear hK K) | (clear hK K; clear hK K; refine hK _ ?_; clear hK K) | (clear hK K; clear hK K; clear hK K; refine hK _ ?_; clear hK K)) | (refine awp_exit ?_; simp only [thenA_exit, inBlk_exit, thenA_normal, inBlk_normal, ↓reduceIte, Nat.reduceEqDiff])))
        obtain ⟨A, hA⟩ : ∃ A, D[ia] = A := ⟨_, rfl⟩
        obtain ⟨B, hB⟩ : ∃ B, D[ib] = B := ⟨_, rfl⟩
        rw [hA] at HA GA
        rw [hB] at HB GB
        have HDS : Hid (derS l (pa, pb, pc) S = match tryV A B pc 8 1 with | some (d, w) => S ++ [⟨d, [(ia : Nat) + 1, (ib : Nat) + 1], [(w : Nat)]⟩] | none => S) := Lib.hid (by
          unfold derS
          simp only
          rw [← HD.out, HNN.out, HIA.out, HIB.out, GA.out, GB.out])
        have HP2 : Hid (derP l (ps.drop k) S = derP l (ps.drop (k + 1)) (derS l (pa, pb, pc) S)) := Lib.hid (by rw [HP.out, ← HD.out, HNN.out, if_neg hd0])
        refine awp_lp (fun s => ∃ v : Nat, 1 ≤ v ∧ v ≤ 9 ∧ tryV A B pc (9 - v) v = tryV A B pc 8 1 ∧ s = ⟨[(1, .c (.t (.s (ps.map pickR)))), (5, .c (.own 16 n)), (6, .c (.own 6 S.length)), (7, .c (.t (.v (.int .i64 k)))), (8, .c (.t (.v (.int .i64 ia)))), (9, .c (.t (.v (.int .i64 ib)))), (10, .c (.t (.v (.int .i64 v))))], [(6, .row 43 3 (S.map stepR)), (16, .row 27 1 (D.map intsR))]⟩) (fun s => 9 - nat 10 s) _ ?_ ⟨1, Nat.le_refl _, by omega, rfl, rfl⟩ ?_
        · refine weak_w (by repeat' (first | exact trivial | exact Coe.refl _ | exact Coe.c CoeC.nil | apply And.intro)) (by repeat' (first | exact trivial | rfl | apply And.intro)) rfl rfl (by repeat' (first | exact trivial | (intro h; first | rfl | (exfalso; omega)) | apply And.intro))
        · rintro s R2 ⟨v, hv1, hv9, htry, rfl⟩ hR2
          have HTRY := Lib.hid htry
          clear htry
          by_cases hv8 : v ≤ 8
          · obtain ⟨ec, lc⟩ := pickI_spec pc (n := 8) (by omega)
            obtain ⟨ic, hic⟩ : ∃ i, pickI pc 8 = i := ⟨_, rfl⟩
            rw [hic] at ec lc
            have rc := u64_range pc
            have ec2 : (IntKind.u64.wrap pc).tmod 8 = (ic : Int) := ec
            clear ec
            obtain ⟨r, hr, hr2, hr8⟩ : ∃ r : Nat, ((v : Int) + (ic : Int)).tmod 8 = (r : Int) ∧ r = (v + ic) % 8 ∧ r < 8 := ⟨(v + ic) % 8, by rw [Int.tmod_eq_emod_of_nonneg (by omega)]; omega, rfl, by omega⟩
            have HW : Hid (((pickW pc v : Nat) : Int) = 1 + (r : Int)) := Lib.hid (by unfold pickW; rw [hic, ← hr2]; push_cast; rfl)
            have HW2 : Hid (pickW pc v = 1 + r) := Lib.hid (by unfold pickW; rw [hic, ← hr2])
            have HT2 : Hid (tryV A B pc (9 - v) v = match joinR A B (pickW pc v : Nat) with | some d => some (d, pickW pc v) | none => tryV A B pc (9 - v - 1) (v + 1)) := Lib.hid (by
              obtain ⟨f, hf⟩ : ∃ f, 9 - v = f + 1 := ⟨9 - v - 1, by omega⟩
              rw [hf]
              rfl)
            clear hic hr2
            cases hj : joinR A B (1 + (r : Int)) with
            | some d =>
              have HJ := Lib.hid hj
              have HSD : Hid (Small d) := Lib.hid (joinR_small HA.out HB.out hj)
              have hdd := HSD.out.1
              have hdn := map_len intR 1 (fun _ => rfl) d
              have HS2 : Hid (derS l (pa, pb, pc) S = S ++ [⟨d, [(ia : Nat) + 1, (ib : Nat) + 1], [1 + (r : Int)]⟩]) := Lib.hid (by
                rw [HDS.out, ← HTRY.out, HT2.out, HW.out, HJ.out]
                simp only [HW2.out]
                push_cast
                rfl)
              (repeat' (first | refine awp_block ?_ | ((first | refine awp_tk [] (by kernel_rfl) (fun K hK => ?_) | refine awp_dk [] mixed (by kernel_rfl) (by kernel_rfl) (fun K hK => ?_)); go_simp; (repeat (simp (disch := omega) only [dT, dF, nT, nF, wA, wB, wC, wD]; try go_simp)); (repeat (refine ⟨by (repeat' apply And.intro) <;> first | omega | trivial | assumption | decide, ?_⟩)); (first | (refine hK _ ?_; clear hK K) | (clear hK K; refine hK _ ?_; clear hK K) | (clear hK K; clear hK K; refine hK _ ?_; clear hK K) | (clear hK K; clear hK K; clear hK K; refine hK _ ?_; clear hK K))) | refine awp_ct rfl ?_ | refine awp_cf rfl ?_ | (first | (refine awp_skip (hK _ ?_); clear hK K) | (clear hK K; refine awp_skip (hK _ ?_); clear hK K) | (clear hK K; clear hK K; refine awp_skip (hK _ ?_); clear hK K) | (clear hK K; clear hK K; clear hK K; refine awp_skip (hK _ ?_); clear hK K)) | refine awp_seqk (fun K hK => ?_) | ((first | refine awp_t [] (by kernel_rfl) ?_ | refine awp_d [] mixed (by kernel_rfl) (by kernel_rfl) ?_); go_simp; (repeat (simp (disch := omega) only [dT, dF, nT, nF, wA, wB, wC, wD]; try go_simp)); (repeat (refine ⟨by (repeat' apply And.intro) <;> first | omega | trivial | assumption | decide, ?_⟩))) | (first | (refine hK _ ?_; clear hK K) | (clear hK K; refine hK _ ?_; clear hK K) | (clear hK K; clear hK K; refine hK _ ?_; clear hK K) | (clear hK K; clear hK K; clear hK K; refine hK _ ?_; clear hK K)) | (refine awp_exit ?_; simp only [thenA_exit, inBlk_exit, thenA_normal, inBlk_normal, ↓reduceIte, Nat.reduceEqDiff])))
              refine callV (rjoin_fx A B (1 + (r : Int)) HA.out.inL HB.out.inL (by omega)) rfl ?_
              go_simp
              (repeat (simp (disch := omega) only [dT, dF, nT, nF, wA, wB, wC, wD]; try go_simp))
              (repeat (refine ⟨by (repeat' apply And.intro) <;> first | omega | trivial | assumption | decide, ?_⟩))
              (repeat' (first | refine awp_block ?_ | ((first | refine awp_tk [] (by kernel_rfl) (fun K hK => ?_) | refine awp_dk [] mixed (by kernel_rfl) (by kernel_rfl) (fun K hK => ?_)); go_simp; (repeat (simp (disch := omega) only [dT, dF, nT, nF, wA, wB, wC, wD]; try go_simp)); (repeat (refine ⟨by (repeat' apply And.intro) <;> first | omega | trivial | assumption | decide, ?_⟩)); (first | (refine hK _ ?_; clear hK K) | (clear hK K; refine hK _ ?_; clear hK K) | (clear hK K; clear hK K; refine hK _ ?_; clear hK K) | (clear hK K; clear hK K; clear hK K; refine hK _ ?_; clear hK K))) | refine awp_ct rfl ?_ | refine awp_cf rfl ?_ | (first | (refine awp_skip (hK _ ?_); clear hK K) | (clear hK K; refine awp_skip (hK _ ?_); clear hK K) | (clear hK K; clear hK K; refine awp_skip (hK _ ?_); clear hK K) | (clear hK K; clear hK K; clear hK K; refine awp_skip (hK _ ?_); clear hK K)) | refine awp_seqk (fun K hK => ?_) | ((first | refine awp_t [] (by kernel_rfl) ?_ | refine awp_d [] mixed (by kernel_rfl) (by kernel_rfl) ?_); go_simp; (repeat (simp (disch := omega) only [dT, dF, nT, nF, wA, wB, wC, wD]; try go_simp)); (repeat (refine ⟨by (repeat' apply And.intro) <;> first | omega | trivial | assumption | decide, ?_⟩))) | (first | (refine hK _ ?_; clear hK K) | (clear hK K; refine hK _ ?_; clear hK K) | (clear hK K; clear hK K; refine hK _ ?_; clear hK K) | (clear hK K; clear hK K; clear hK K; refine hK _ ?_; clear hK K)) | (refine awp_exit ?_; simp only [thenA_exit, inBlk_exit, thenA_normal, inBlk_normal, ↓reduceIte, Nat.reduceEqDiff])))
              refine hR _ _ ?_ ⟨k + 1, S ++ [⟨d, [(ia : Nat) + 1, (ib : Nat) + 1], [1 + (r : Int)]⟩], D ++ [d], by omega, by simp; omega, by rw [clsOf_snoc, HD.out], fun c hc => ?_, by rw [← HDER.out, HP2.out, HS2.out], rfl⟩ ?_
              · simp only [List.length_append, List.length_singleton, List.map_append, List.map_cons, List.map_nil, stepR, intsR, intR, HNN.out]
                refine weak_w (by repeat' (first | exact trivial | exact Coe.refl _ | exact Coe.c CoeC.nil | apply And.intro)) (by repeat' (first | exact trivial | rfl | apply And.intro)) rfl rfl (by repeat' (first | exact trivial | (intro h; first | rfl | (exfalso; omega)) | apply And.intro))
              · rcases List.mem_append.1 hc with h | h
                · exact HSM.out c h
                · rw [List.mem_singleton.1 h]; exact HSD.out
              · simp [nat, sget]; omega
            | none =>
              have HJ := Lib.hid hj
              (repeat' (first | refine awp_block ?_ | ((first | refine awp_tk [] (by kernel_rfl) (fun K hK => ?_) | refine awp_dk [] mixed (by kernel_rfl) (by kernel_rfl) (fun K hK => ?_)); go_simp; (repeat (simp (disch := omega) only [dT, dF, nT, nF, wA, wB, wC, wD]; try go_simp)); (repeat (refine ⟨by (repeat' apply And.intro) <;> first | omega | trivial | assumption | decide, ?_⟩)); (first | (refine hK _ ?_; clear hK K) | (clear hK K; refine hK _ ?_; clear hK K) | (clear hK K; clear hK K; refine hK _ ?_; clear hK K) | (clear hK K; clear hK K; clear hK K; refine hK _ ?_; clear hK K))) | refine awp_ct rfl ?_ | refine awp_cf rfl ?_ | (first | (refine awp_skip (hK _ ?_); clear hK K) | (clear hK K; refine awp_skip (hK _ ?_); clear hK K) | (clear hK K; clear hK K; refine awp_skip (hK _ ?_); clear hK K) | (clear hK K; clear hK K; clear hK K; refine awp_skip (hK _ ?_); clear hK K)) | refine awp_seqk (fun K hK => ?_) | ((first | refine awp_t [] (by kernel_rfl) ?_ | refine awp_d [] mixed (by kernel_rfl) (by kernel_rfl) ?_); go_simp; (repeat (simp (disch := omega) only [dT, dF, nT, nF, wA, wB, wC, wD]; try go_simp)); (repeat (refine ⟨by (repeat' apply And.intro) <;> first | omega | trivial | assumption | decide, ?_⟩))) | (first | (refine hK _ ?_; clear hK K) | (clear hK K; refine hK _ ?_; clear hK K) | (clear hK K; clear hK K; refine hK _ ?_; clear hK K) | (clear hK K; clear hK K; clear hK K; refine hK _ ?_; clear hK K)) | (refine awp_exit ?_; simp only [thenA_exit, inBlk_exit, thenA_normal, inBlk_normal, ↓reduceIte, Nat.reduceEqDiff])))
              refine callV (rjoin_fx A B (1 + (r : Int)) HA.out.inL HB.out.inL (by omega)) rfl ?_
              go_simp
              (repeat (simp (disch := omega) only [dT, dF, nT, nF, wA, wB, wC, wD]; try go_simp))
              (repeat (refine ⟨by (repeat' apply And.intro) <;> first | omega | trivial | assumption | decide, ?_⟩))
              (repeat' (first | refine awp_block ?_ | ((first | refine awp_tk [] (by kernel_rfl) (fun K hK => ?_) | refine awp_dk [] mixed (by kernel_rfl) (by kernel_rfl) (fun K hK => ?_)); go_simp; (repeat (simp (disch := omega) only [dT, dF, nT, nF, wA, wB, wC, wD]; try go_simp)); (repeat (refine ⟨by (repeat' apply And.intro) <;> first | omega | trivial | assumption | decide, ?_⟩)); (first | (refine hK _ ?_; clear hK K) | (clear hK K; refine hK _ ?_; clear hK K) | (clear hK K; clear hK K; refine hK _ ?_; clear hK K) | (clear hK K; clear hK K; clear hK K; refine hK _ ?_; clear hK K))) | refine awp_ct rfl ?_ | refine awp_cf rfl ?_ | (first | (refine awp_skip (hK _ ?_); clear hK K) | (clear hK K; refine awp_skip (hK _ ?_); clear hK K) | (clear hK K; clear hK K; refine awp_skip (hK _ ?_); clear hK K) | (clear hK K; clear hK K; clear hK K; refine awp_skip (hK _ ?_); clear hK K)) | refine awp_seqk (fun K hK => ?_) | ((first | refine awp_t [] (by kernel_rfl) ?_ | refine awp_d [] mixed (by kernel_rfl) (by kernel_rfl) ?_); go_simp; (repeat (simp (disch := omega) only [dT, dF, nT, nF, wA, wB, wC, wD]; try go_simp)); (repeat (refine ⟨by (repeat' apply And.intro) <;> first | omega | trivial | assumption | decide, ?_⟩))) | (first | (refine hK _ ?_; clear hK K) | (clear hK K; refine hK _ ?_; clear hK K) | (clear hK K; clear hK K; refine hK _ ?_; clear hK K) | (clear hK K; clear hK K; clear hK K; refine hK _ ?_; clear hK K)) | (refine awp_exit ?_; simp only [thenA_exit, inBlk_exit, thenA_normal, inBlk_normal, ↓reduceIte, Nat.reduceEqDiff])))
              refine hR2 _ _ ?_ ⟨v + 1, by omega, by omega, ?_, rfl⟩ ?_
              · refine weak_w (by repeat' (first | exact trivial | exact Coe.refl _ | exact Coe.c CoeC.nil | apply And.intro)) (by repeat' (first | exact trivial | rfl | apply And.intro)) rfl rfl (by repeat' (first | exact trivial | (intro h; first | rfl | (exfalso; omega)) | apply And.intro))
              · rw [← HTRY.out, HT2.out, HW.out, HJ.out]; rfl
              · simp [nat, sget]; omega
          · have HS2 : Hid (derS l (pa, pb, pc) S = S) := Lib.hid (by
              rw [HDS.out, ← HTRY.out, show 9 - v = 0 by omega]
              rfl)
            (repeat' (first | refine awp_block ?_ | ((first | refine awp_tk [] (by kernel_rfl) (fun K hK => ?_) | refine awp_dk [] mixed (by kernel_rfl) (by kernel_rfl) (fun K hK => ?_)); go_simp; (repeat (simp (disch := omega) only [dT, dF, nT, nF, wA, wB, wC, wD]; try go_simp)); (repeat (refine ⟨by (repeat' apply And.intro) <;> first | omega | trivial | assumption | decide, ?_⟩)); (first | (refine hK _ ?_; clear hK K) | (clear hK K; refine hK _ ?_; clear hK K) | (clear hK K; clear hK K; refine hK _ ?_; clear hK K) | (clear hK K; clear hK K; clear hK K; refine hK _ ?_; clear hK K))) | refine awp_ct rfl ?_ | refine awp_cf rfl ?_ | (first | (refine awp_skip (hK _ ?_); clear hK K) | (clear hK K; refine awp_skip (hK _ ?_); clear hK K) | (clear hK K; clear hK K; refine awp_skip (hK _ ?_); clear hK K) | (clear hK K; clear hK K; clear hK K; refine awp_skip (hK _ ?_); clear hK K)) | refine awp_seqk (fun K hK => ?_) | ((first | refine awp_t [] (by kernel_rfl) ?_ | refine awp_d [] mixed (by kernel_rfl) (by kernel_rfl) ?_); go_simp; (repeat (simp (disch := omega) only [dT, dF, nT, nF, wA, wB, wC, wD]; try go_simp)); (repeat (refine ⟨by (repeat' apply And.intro) <;> first | omega | trivial | assumption | decide, ?_⟩))) | (first | (refine hK _ ?_; clear hK K) | (clear hK K; refine hK _ ?_; clear hK K) | (clear hK K; clear hK K; refine hK _ ?_; clear hK K) | (clear hK K; clear hK K; clear hK K; refine hK _ ?_; clear hK K)) | (refine awp_exit ?_; simp only [thenA_exit, inBlk_exit, thenA_normal, inBlk_normal, ↓reduceIte, Nat.reduceEqDiff])))
            refine hR _ _ ?_ ⟨k + 1, S, D, by omega, by omega, HD.out, HSM.out, by rw [← HDER.out, HP2.out, HS2.out], rfl⟩ ?_
            · rw [HNN.out]
              refine weak_w (by repeat' (first | exact trivial | exact Coe.refl _ | exact Coe.c CoeC.nil | apply And.intro)) (by repeat' (first | exact trivial | rfl | apply And.intro)) rfl rfl (by repeat' (first | exact trivial | (intro h; first | rfl | (exfalso; omega)) | apply And.intro))
            · simp [nat, sget]; omega
    · have HE : Hid (derP l ps [] = S) := Lib.hid (by rw [← HDER.out, List.drop_eq_nil_of_le (by omega)]; rfl)
      (repeat' (first | refine awp_block ?_ | ((first | refine awp_tk [] (by kernel_rfl) (fun K hK => ?_) | refine awp_dk [] mixed (by kernel_rfl) (by kernel_rfl) (fun K hK => ?_)); go_simp; (repeat (simp (disch := omega) only [dT, dF, nT, nF, wA, wB, wC, wD]; try go_simp)); (repeat (refine ⟨by (repeat' apply And.intro) <;> first | omega | trivial | assumption | decide, ?_⟩)); (first | (refine hK _ ?_; clear hK K) | (clear hK K; refine hK _ ?_; clear hK K) | (clear hK K; clear hK K; refine hK _ ?_; clear hK K) | (clear hK K; clear hK K; clear hK K; refine hK _ ?_; clear hK K))) | refine awp_ct rfl ?_ | refine awp_cf rfl ?_ | (first | (refine awp_skip (hK _ ?_); clear hK K) | (clear hK K; refine awp_skip (hK _ ?_); clear hK K) | (clear hK K; clear hK K; refine awp_skip (hK _ ?_); clear hK K) | (clear hK K; clear hK K; clear hK K; refine awp_skip (hK _ ?_); clear hK K)) | refine awp_seqk (fun K hK => ?_) | ((first | refine awp_t [] (by kernel_rfl) ?_ | refine awp_d [] mixed (by kernel_rfl) (by kernel_rfl) ?_); go_simp; (repeat (simp (disch := omega) only [dT, dF, nT, nF, wA, wB, wC, wD]; try go_simp)); (repeat (refine ⟨by (repeat' apply And.intro) <;> first | omega | trivial | assumption | decide, ?_⟩))) | (refine awp_exit ?_; simp only [thenA_exit, inBlk_exit, thenA_normal, inBlk_normal, ↓reduceIte, Nat.reduceEqDiff])))
      (first | (refine hK _ ?_; clear hK K) | (clear hK K; refine hK _ ?_; clear hK K) | (clear hK K; clear hK K; refine hK _ ?_; clear hK K) | (clear hK K; clear hK K; clear hK K; refine hK _ ?_; clear hK K))
      refine awp_weak (weak_freeze 6 (by decide) rfl) ?_
      simp only [frzS, frzAV, frzC, frzH, frzO, List.map_cons, List.map_nil, List.length_cons, List.length_nil, Nat.zero_add, Nat.reduceAdd, ↓reduceIte, Nat.reduceEqDiff, List.length_map]
      (repeat' (first | refine awp_block ?_ | ((first | refine awp_tk [] (by kernel_rfl) (fun K hK => ?_) | refine awp_dk [] mixed (by kernel_rfl) (by kernel_rfl) (fun K hK => ?_)); go_simp; (repeat (simp (disch := omega) only [dT, dF, nT, nF, wA, wB, wC, wD]; try go_simp)); (repeat (refine ⟨by (repeat' apply And.intro) <;> first | omega | trivial | assumption | decide, ?_⟩)); (first | (refine hK _ ?_; clear hK K) | (clear hK K; refine hK _ ?_; clear hK K) | (clear hK K; clear hK K; refine hK _ ?_; clear hK K) | (clear hK K; clear hK K; clear hK K; refine hK _ ?_; clear hK K))) | refine awp_ct rfl ?_ | refine awp_cf rfl ?_ | (first | (refine awp_skip (hK _ ?_); clear hK K) | (clear hK K; refine awp_skip (hK _ ?_); clear hK K) | (clear hK K; clear hK K; refine awp_skip (hK _ ?_); clear hK K) | (clear hK K; clear hK K; clear hK K; refine awp_skip (hK _ ?_); clear hK K)) | refine awp_seqk (fun K hK => ?_) | ((first | refine awp_t [] (by kernel_rfl) ?_ | refine awp_d [] mixed (by kernel_rfl) (by kernel_rfl) ?_); go_simp; (repeat (simp (disch := omega) only [dT, dF, nT, nF, wA, wB, wC, wD]; try go_simp)); (repeat (refine ⟨by (repeat' apply And.intro) <;> first | omega | trivial | assumption | decide, ?_⟩))) | (first | (refine hK _ ?_; clear hK K) | (clear hK K; refine hK _ ?_; clear hK K) | (clear hK K; clear hK K; refine hK _ ?_; clear hK K) | (clear hK K; clear hK K; clear hK K; refine hK _ ?_; clear hK K)) | (refine awp_exit ?_; simp only [thenA_exit, inBlk_exit, thenA_normal, inBlk_normal, ↓reduceIte, Nat.reduceEqDiff])))
      rw [HE.out]
      exact awp_ret ⟨_, (by repeat' (first | exact .nil | exact .tmp _ _ rfl | apply ResL.cons)), (by repeat' (first | exact Coe.refl _ | exact Coe.c CoeC.nil | exact Coe.c CoeC.z | exact .nil | apply Coe.tup | apply CoeA.cons)), rfl⟩
end Go.Proofs.Ytiimkhnngpfnbaa.Fx
/- The law's own small example: two steps made of one. -/
namespace Go.Proofs.Ytiimkhnngpfnbaa.Fx
open Go.RowKit
set_option linter.unusedVariables false
set_option linter.unusedSimpArgs false
set_option maxRecDepth 100000
theorem ex_chk : chkF 2 [[1, 2], [-1], [-2]] = 0 := by decide
theorem normL_fold : normL = fun c => c.foldl Go.Proofs.Ytiimkhnngpfnbaa.stepR [] := funext fun c => by
  have h := foldR_both c [] List.Pairwise.nil
  exact (normL_of h.1 (fun x => by rw [h.2]; simp)).symm
theorem ex_fol : folP [[1, 2], [-1], [-2]] ⟨[], [1, 2, 3], [1, 2]⟩ = ([], 0) := by
  simp only [folP, folG, joinP, resP, resL, normL_fold]
  decide +kernel
theorem ex_in : ∀ c ∈ ([[1, 2], [-1], [-2]] : List (List Int)), InB 2 c := by
  intro c hc
  simp only [List.mem_cons, List.not_mem_nil, or_false] at hc
  rcases hc with rfl | rfl | rfl <;> refine ⟨by decide, fun x hx => ?_⟩ <;> simp at hx <;> omega
theorem ex_r64 : InR64 [1, 2, 3] := by
  intro x hx
  simp at hx
  omega
set_option maxHeartbeats 1000000 in
theorem check_ex : FxPure Try.prog 17 [.agg [.t (.v (.int .i64 2)), .t (.s ([[1, 2], [-1], [-2]].map intsR))], .c (.t (.s ([(⟨[], [1, 2, 3], [1, 2]⟩ : StepD)].map stepR)))] (.tup [.c (.t (.v (.int .i64 1))), .c (.t (.v (.int .i64 0)))]) := by
  refine fx_pure 53 Try.func17 rfl rfl rfl rfl (fun hlen => ?_)
  clear hlen
  have hchk := ex_chk
  have hfol := ex_fol
  (repeat' (first | refine awp_block ?_ | ((first | refine awp_tk [] (by kernel_rfl) (fun K hK => ?_) | refine awp_dk [] mixed (by kernel_rfl) (by kernel_rfl) (fun K hK => ?_)); go_simp; (repeat (simp (disch := omega) only [dT, dF, nT, nF, wA, wB, wC, wD]; try go_simp)); (repeat (refine ⟨by (repeat' apply And.intro) <;> first | omega | trivial | assumption | decide, ?_⟩)); (first | (refine hK _ ?_; clear hK K) | (clear hK K; refine hK _ ?_; clear hK K) | (clear hK K; clear hK K; refine hK _ ?_; clear hK K) | (clear hK K; clear hK K; clear hK K; refine hK _ ?_; clear hK K))) | refine awp_ct rfl ?_ | refine awp_cf rfl ?_ | (first | (refine awp_skip (hK _ ?_); clear hK K) | (clear hK K; refine awp_skip (hK _ ?_); clear hK K) | (clear hK K; clear hK K; refine awp_skip (hK _ ?_); clear hK K) | (clear hK K; clear hK K; clear hK K; refine awp_skip (hK _ ?_); clear hK K)) | refine awp_seqk (fun K hK => ?_) | ((first | refine awp_t [] (by kernel_rfl) ?_ | refine awp_d [] mixed (by kernel_rfl) (by kernel_rfl) ?_); go_simp; (repeat (simp (disch := omega) only [dT, dF, nT, nF, wA, wB, wC, wD]; try go_simp)); (repeat (refine ⟨by (repeat' apply And.intro) <;> first | omega | trivial | assumption | decide, ?_⟩))) | (first | (refine hK _ ?_; clear hK K) | (clear hK K; refine hK _ ?_; clear hK K) | (clear hK K; clear hK K; refine hK _ ?_; clear hK K) | (clear hK K; clear hK K; clear hK K; refine hK _ ?_; clear hK K)) | (refine awp_exit ?_; simp only [thenA_exit, inBlk_exit, thenA_normal, inBlk_normal, ↓reduceIte, Nat.reduceEqDiff])))
  refine callV (fcheck_fx 2 [[1, 2], [-1], [-2]] (by decide) (by decide)) rfl ?_
  go_simp
  (repeat (simp (disch := omega) only [dT, dF, nT, nF, wA, wB, wC, wD]; try go_simp))
  (repeat (refine ⟨by (repeat' apply And.intro) <;> first | omega | trivial | assumption | decide, ?_⟩))
  (repeat' (first | refine awp_block ?_ | ((first | refine awp_tk [19] (by kernel_rfl) (fun K hK => ?_) | refine awp_dk [19] mixed (by kernel_rfl) (by kernel_rfl) (fun K hK => ?_)); go_simp; (repeat (simp (disch := omega) only [dT, dF, nT, nF, wA, wB, wC, wD]; try go_simp)); (repeat (refine ⟨by (repeat' apply And.intro) <;> first | omega | trivial | assumption | decide, ?_⟩)); (first | (refine hK _ ?_; clear hK K) | (clear hK K; refine hK _ ?_; clear hK K) | (clear hK K; clear hK K; refine hK _ ?_; clear hK K) | (clear hK K; clear hK K; clear hK K; refine hK _ ?_; clear hK K))) | refine awp_ct rfl ?_ | refine awp_cf rfl ?_ | (first | (refine awp_skip (hK _ ?_); clear hK K) | (clear hK K; refine awp_skip (hK _ ?_); clear hK K) | (clear hK K; clear hK K; refine awp_skip (hK _ ?_); clear hK K) | (clear hK K; clear hK K; clear hK K; refine awp_skip (hK _ ?_); clear hK K)) | refine awp_seqk (fun K hK => ?_) | ((first | refine awp_t [19] (by kernel_rfl) ?_ | refine awp_d [19] mixed (by kernel_rfl) (by kernel_rfl) ?_); go_simp; (repeat (simp (disch := omega) only [dT, dF, nT, nF, wA, wB, wC, wD]; try go_simp)); (repeat (refine ⟨by (repeat' apply And.intro) <;> first | omega | trivial | assumption | decide, ?_⟩))) | (first | (refine hK _ ?_; clear hK K) | (clear hK K; refine hK _ ?_; clear hK K) | (clear hK K; clear hK K; refine hK _ ?_; clear hK K) | (clear hK K; clear hK K; clear hK K; refine hK _ ?_; clear hK K)) | (refine awp_exit ?_; simp only [thenA_exit, inBlk_exit, thenA_normal, inBlk_normal, ↓reduceIte, Nat.reduceEqDiff])))
  refine callG [(7, 19)] (clone_call ([[1, 2], [-1], [-2]].map intsR) (by intro r hr; simp only [List.map_cons, List.map_nil, List.mem_cons, List.not_mem_nil, or_false] at hr; rcases hr with rfl | rfl | rfl <;> rfl) (by decide)) rfl (by simp only [renAL, renAV, renC, renL, lk, ↓reduceIte, Nat.reduceEqDiff]; repeat' (first | exact .nil | exact Coe.refl _ | exact Coe.c CoeC.nil | exact Coe.c CoeC.z | apply CoeA.cons)) rfl (by repeat' (first | exact trivial | rfl | apply And.intro)) rfl rfl (by repeat' (first | exact trivial | rfl | exact .inl rfl | exact .inr rfl | apply And.intro)) ?_
  go_simp
  (repeat (simp (disch := omega) only [dT, dF, nT, nF, wA, wB, wC, wD]; try go_simp))
  (repeat (refine ⟨by (repeat' apply And.intro) <;> first | omega | trivial | assumption | decide, ?_⟩))
  (repeat' (first | refine awp_block ?_ | ((first | refine awp_tk [] (by kernel_rfl) (fun K hK => ?_) | refine awp_dk [] mixed (by kernel_rfl) (by kernel_rfl) (fun K hK => ?_)); go_simp; (repeat (simp (disch := omega) only [dT, dF, nT, nF, wA, wB, wC, wD]; try go_simp)); (repeat (refine ⟨by (repeat' apply And.intro) <;> first | omega | trivial | assumption | decide, ?_⟩)); (first | (refine hK _ ?_; clear hK K) | (clear hK K; refine hK _ ?_; clear hK K) | (clear hK K; clear hK K; refine hK _ ?_; clear hK K) | (clear hK K; clear hK K; clear hK K; refine hK _ ?_; clear hK K))) | refine awp_ct rfl ?_ | refine awp_cf rfl ?_ | (first | (refine awp_skip (hK _ ?_); clear hK K) | (clear hK K; refine awp_skip (hK _ ?_); clear hK K) | (clear hK K; clear hK K; refine awp_skip (hK _ ?_); clear hK K) | (clear hK K; clear hK K; clear hK K; refine awp_skip (hK _ ?_); clear hK K)) | refine awp_seqk (fun K hK => ?_) | ((first | refine awp_t [] (by kernel_rfl) ?_ | refine awp_d [] mixed (by kernel_rfl) (by kernel_rfl) ?_); go_simp; (repeat (simp (disch := omega) only [dT, dF, nT, nF, wA, wB, wC, wD]; try go_simp)); (repeat (refine ⟨by (repeat' apply And.intro) <;> first | omega | trivial | assumption | decide, ?_⟩))) | (first | (refine hK _ ?_; clear hK K) | (clear hK K; refine hK _ ?_; clear hK K) | (clear hK K; clear hK K; refine hK _ ?_; clear hK K) | (clear hK K; clear hK K; clear hK K; refine hK _ ?_; clear hK K)) | (refine awp_exit ?_; simp only [thenA_exit, inBlk_exit, thenA_normal, inBlk_normal, ↓reduceIte, Nat.reduceEqDiff])))
  refine awp_rounds 2 ?_
  refine awp_round (fun K hK => ?_)
  (repeat' (first | refine awp_block ?_ | ((first | refine awp_tk [30] (by kernel_rfl) (fun K hK => ?_) | refine awp_dk [30] mixed (by kernel_rfl) (by kernel_rfl) (fun K hK => ?_)); go_simp; (repeat (simp (disch := omega) only [dT, dF, nT, nF, wA, wB, wC, wD]; try go_simp)); (repeat (refine ⟨by (repeat' apply And.intro) <;> first | omega | trivial | assumption | decide, ?_⟩)); (first | (refine hK _ ?_; clear hK K) | (clear hK K; refine hK _ ?_; clear hK K) | (clear hK K; clear hK K; refine hK _ ?_; clear hK K) | (clear hK K; clear hK K; clear hK K; refine hK _ ?_; clear hK K))) | refine awp_ct rfl ?_ | refine awp_cf rfl ?_ | (first | (refine awp_skip (hK _ ?_); clear hK K) | (clear hK K; refine awp_skip (hK _ ?_); clear hK K) | (clear hK K; clear hK K; refine awp_skip (hK _ ?_); clear hK K) | (clear hK K; clear hK K; clear hK K; refine awp_skip (hK _ ?_); clear hK K)) | refine awp_seqk (fun K hK => ?_) | ((first | refine awp_t [30] (by kernel_rfl) ?_ | refine awp_d [30] mixed (by kernel_rfl) (by kernel_rfl) ?_); go_simp; (repeat (simp (disch := omega) only [dT, dF, nT, nF, wA, wB, wC, wD]; try go_simp)); (repeat (refine ⟨by (repeat' apply And.intro) <;> first | omega | trivial | assumption | decide, ?_⟩))) | (first | (refine hK _ ?_; clear hK K) | (clear hK K; refine hK _ ?_; clear hK K) | (clear hK K; clear hK K; refine hK _ ?_; clear hK K) | (clear hK K; clear hK K; clear hK K; refine hK _ ?_; clear hK K)) | (refine awp_exit ?_; simp only [thenA_exit, inBlk_exit, thenA_normal, inBlk_normal, ↓reduceIte, Nat.reduceEqDiff])))
  refine callG [(1000, 19)] (follow_fo 2 [[1, 2], [-1], [-2]] ⟨[], [1, 2, 3], [1, 2]⟩ ex_in (by decide) ex_r64 (fun v hv => by have := ex_r64 v; simp at hv; rcases hv with rfl | rfl <;> omega) (by decide) (by decide) (by decide) (by decide)) rfl (by simp only [renAL, renAV, renC, renL, lk, ↓reduceIte, Nat.reduceEqDiff]; repeat' (first | exact .nil | exact Coe.refl _ | exact Coe.c CoeC.nil | exact Coe.c CoeC.z | apply CoeA.cons)) rfl (by repeat' (first | exact trivial | rfl | apply And.intro)) rfl rfl (by repeat' (first | exact trivial | rfl | exact .inl rfl | exact .inr rfl | apply And.intro)) ?_
  go_simp
  (repeat (simp (disch := omega) only [dT, dF, nT, nF, wA, wB, wC, wD]; try go_simp))
  (repeat (refine ⟨by (repeat' apply And.intro) <;> first | omega | trivial | assumption | decide, ?_⟩))
  (repeat' (first | refine awp_block ?_ | ((first | refine awp_tk [] (by kernel_rfl) (fun K hK => ?_) | refine awp_dk [] mixed (by kernel_rfl) (by kernel_rfl) (fun K hK => ?_)); go_simp; (repeat (simp (disch := omega) only [dT, dF, nT, nF, wA, wB, wC, wD]; try go_simp)); (repeat (refine ⟨by (repeat' apply And.intro) <;> first | omega | trivial | assumption | decide, ?_⟩)); (first | (refine hK _ ?_; clear hK K) | (clear hK K; refine hK _ ?_; clear hK K) | (clear hK K; clear hK K; refine hK _ ?_; clear hK K) | (clear hK K; clear hK K; clear hK K; refine hK _ ?_; clear hK K))) | refine awp_ct rfl ?_ | refine awp_cf rfl ?_ | (first | (refine awp_skip (hK _ ?_); clear hK K) | (clear hK K; refine awp_skip (hK _ ?_); clear hK K) | (clear hK K; clear hK K; refine awp_skip (hK _ ?_); clear hK K) | (clear hK K; clear hK K; clear hK K; refine awp_skip (hK _ ?_); clear hK K)) | refine awp_seqk (fun K hK => ?_) | ((first | refine awp_t [] (by kernel_rfl) ?_ | refine awp_d [] mixed (by kernel_rfl) (by kernel_rfl) ?_); go_simp; (repeat (simp (disch := omega) only [dT, dF, nT, nF, wA, wB, wC, wD]; try go_simp)); (repeat (refine ⟨by (repeat' apply And.intro) <;> first | omega | trivial | assumption | decide, ?_⟩))) | (first | (refine hK _ ?_; clear hK K) | (clear hK K; refine hK _ ?_; clear hK K) | (clear hK K; clear hK K; refine hK _ ?_; clear hK K) | (clear hK K; clear hK K; clear hK K; refine hK _ ?_; clear hK K)) | (refine awp_exit ?_; simp only [thenA_exit, inBlk_exit, thenA_normal, inBlk_normal, ↓reduceIte, Nat.reduceEqDiff])))
  refine callV (equal_fx [] [] (by decide) (by decide)) rfl ?_
  go_simp
  (repeat (simp (disch := omega) only [dT, dF, nT, nF, wA, wB, wC, wD]; try go_simp))
  (repeat (refine ⟨by (repeat' apply And.intro) <;> first | omega | trivial | assumption | decide, ?_⟩))
  (repeat' (first | refine awp_block ?_ | ((first | refine awp_tk [] (by kernel_rfl) (fun K hK => ?_) | refine awp_dk [] mixed (by kernel_rfl) (by kernel_rfl) (fun K hK => ?_)); go_simp; (repeat (simp (disch := omega) only [dT, dF, nT, nF, wA, wB, wC, wD]; try go_simp)); (repeat (refine ⟨by (repeat' apply And.intro) <;> first | omega | trivial | assumption | decide, ?_⟩)); (first | (refine hK _ ?_; clear hK K) | (clear hK K; refine hK _ ?_; clear hK K) | (clear hK K; clear hK K; refine hK _ ?_; clear hK K) | (clear hK K; clear hK K; clear hK K; refine hK _ ?_; clear hK K))) | refine awp_ct rfl ?_ | refine awp_cf rfl ?_ | (first | (refine awp_skip (hK _ ?_); clear hK K) | (clear hK K; refine awp_skip (hK _ ?_); clear hK K) | (clear hK K; clear hK K; refine awp_skip (hK _ ?_); clear hK K) | (clear hK K; clear hK K; clear hK K; refine awp_skip (hK _ ?_); clear hK K)) | refine awp_seqk (fun K hK => ?_) | ((first | refine awp_t [] (by kernel_rfl) ?_ | refine awp_d [] mixed (by kernel_rfl) (by kernel_rfl) ?_); go_simp; (repeat (simp (disch := omega) only [dT, dF, nT, nF, wA, wB, wC, wD]; try go_simp)); (repeat (refine ⟨by (repeat' apply And.intro) <;> first | omega | trivial | assumption | decide, ?_⟩))) | (first | (refine hK _ ?_; clear hK K) | (clear hK K; refine hK _ ?_; clear hK K) | (clear hK K; clear hK K; refine hK _ ?_; clear hK K) | (clear hK K; clear hK K; clear hK K; refine hK _ ?_; clear hK K)) | (refine awp_exit ?_; simp only [thenA_exit, inBlk_exit, thenA_normal, inBlk_normal, ↓reduceIte, Nat.reduceEqDiff])))
  exact awp_ret ⟨_, (by repeat' (first | exact .nil | exact .tmp _ _ rfl | apply ResL.cons)), (by repeat' (first | exact Coe.refl _ | exact Coe.c CoeC.nil | exact Coe.c CoeC.z | exact .nil | apply Coe.tup | apply CoeA.cons)), rfl⟩
theorem ex_j1 : joinP [1, 2] [-1] 1 = ([2], 0) := by
  simp only [joinP, resP, resL, normL_fold]
  decide +kernel
theorem ex_j2 : joinP [2] [-2] 2 = ([], 0) := by
  simp only [joinP, resP, resL, normL_fold]
  decide +kernel
theorem ex_inL {c : List Int} (h : c ∈ ([[1, 2], [-1], [-2], [2]] : List (List Int))) : InL c := by
  simp only [List.mem_cons, List.not_mem_nil, or_false] at h
  rcases h with rfl | rfl | rfl | rfl <;> refine ⟨by decide, fun x hx => ?_⟩ <;> simp at hx <;> omega
set_option maxHeartbeats 2000000 in
theorem flat_ex : FxPure Try.prog 18 [.agg [.t (.v (.int .i64 2)), .t (.s ([[1, 2], [-1], [-2]].map intsR))], .c (.t (.s ([(⟨[], [1, 2, 3], [1, 2]⟩ : StepD)].map stepR)))] (.tup [.c (.t (.s ([(⟨[2], [1, 2], [1]⟩ : StepD), ⟨[], [4, 3], [2]⟩].map stepR))), .c (.t (.v (.int .i64 5)))]) := by
  refine fx_pure 135 Try.func18 rfl rfl rfl rfl (fun hlen => ?_)
  clear hlen
  have h1 := ex_j1
  have h2 := ex_j2
  (repeat' (first | refine awp_block ?_ | ((first | refine awp_tk [] (by kernel_rfl) (fun K hK => ?_) | refine awp_dk [] mixed (by kernel_rfl) (by kernel_rfl) (fun K hK => ?_)); go_simp; (repeat (simp (disch := omega) only [dT, dF, nT, nF, wA, wB, wC, wD]; try go_simp)); (repeat (refine ⟨by (repeat' apply And.intro) <;> first | omega | trivial | assumption | decide, ?_⟩)); (first | (refine hK _ ?_; clear hK K) | (clear hK K; refine hK _ ?_; clear hK K) | (clear hK K; clear hK K; refine hK _ ?_; clear hK K) | (clear hK K; clear hK K; clear hK K; refine hK _ ?_; clear hK K))) | refine awp_ct rfl ?_ | refine awp_cf rfl ?_ | (first | (refine awp_skip (hK _ ?_); clear hK K) | (clear hK K; refine awp_skip (hK _ ?_); clear hK K) | (clear hK K; clear hK K; refine awp_skip (hK _ ?_); clear hK K) | (clear hK K; clear hK K; clear hK K; refine awp_skip (hK _ ?_); clear hK K)) | refine awp_seqk (fun K hK => ?_) | ((first | refine awp_t [] (by kernel_rfl) ?_ | refine awp_d [] mixed (by kernel_rfl) (by kernel_rfl) ?_); go_simp; (repeat (simp (disch := omega) only [dT, dF, nT, nF, wA, wB, wC, wD]; try go_simp)); (repeat (refine ⟨by (repeat' apply And.intro) <;> first | omega | trivial | assumption | decide, ?_⟩))) | (first | (refine hK _ ?_; clear hK K) | (clear hK K; refine hK _ ?_; clear hK K) | (clear hK K; clear hK K; refine hK _ ?_; clear hK K) | (clear hK K; clear hK K; clear hK K; refine hK _ ?_; clear hK K)) | (refine awp_exit ?_; simp only [thenA_exit, inBlk_exit, thenA_normal, inBlk_normal, ↓reduceIte, Nat.reduceEqDiff])))
  refine callV (check_ex) rfl ?_
  go_simp
  (repeat (simp (disch := omega) only [dT, dF, nT, nF, wA, wB, wC, wD]; try go_simp))
  (repeat (refine ⟨by (repeat' apply And.intro) <;> first | omega | trivial | assumption | decide, ?_⟩))
  (repeat' (first | refine awp_block ?_ | ((first | refine awp_tk [38] (by kernel_rfl) (fun K hK => ?_) | refine awp_dk [38] mixed (by kernel_rfl) (by kernel_rfl) (fun K hK => ?_)); go_simp; (repeat (simp (disch := omega) only [dT, dF, nT, nF, wA, wB, wC, wD]; try go_simp)); (repeat (refine ⟨by (repeat' apply And.intro) <;> first | omega | trivial | assumption | decide, ?_⟩)); (first | (refine hK _ ?_; clear hK K) | (clear hK K; refine hK _ ?_; clear hK K) | (clear hK K; clear hK K; refine hK _ ?_; clear hK K) | (clear hK K; clear hK K; clear hK K; refine hK _ ?_; clear hK K))) | refine awp_ct rfl ?_ | refine awp_cf rfl ?_ | (first | (refine awp_skip (hK _ ?_); clear hK K) | (clear hK K; refine awp_skip (hK _ ?_); clear hK K) | (clear hK K; clear hK K; refine awp_skip (hK _ ?_); clear hK K) | (clear hK K; clear hK K; clear hK K; refine awp_skip (hK _ ?_); clear hK K)) | refine awp_seqk (fun K hK => ?_) | ((first | refine awp_t [38] (by kernel_rfl) ?_ | refine awp_d [38] mixed (by kernel_rfl) (by kernel_rfl) ?_); go_simp; (repeat (simp (disch := omega) only [dT, dF, nT, nF, wA, wB, wC, wD]; try go_simp)); (repeat (refine ⟨by (repeat' apply And.intro) <;> first | omega | trivial | assumption | decide, ?_⟩))) | (first | (refine hK _ ?_; clear hK K) | (clear hK K; refine hK _ ?_; clear hK K) | (clear hK K; clear hK K; refine hK _ ?_; clear hK K) | (clear hK K; clear hK K; clear hK K; refine hK _ ?_; clear hK K)) | (refine awp_exit ?_; simp only [thenA_exit, inBlk_exit, thenA_normal, inBlk_normal, ↓reduceIte, Nat.reduceEqDiff])))
  refine callG [(7, 38)] (clone_call ([[1, 2], [-1], [-2]].map intsR) (by intro r hr; simp only [List.map_cons, List.map_nil, List.mem_cons, List.not_mem_nil, or_false] at hr; rcases hr with rfl | rfl | rfl <;> rfl) (by decide)) rfl (by simp only [renAL, renAV, renC, renL, lk, ↓reduceIte, Nat.reduceEqDiff]; repeat' (first | exact .nil | exact Coe.refl _ | exact Coe.c CoeC.nil | exact Coe.c CoeC.z | apply CoeA.cons)) rfl (by repeat' (first | exact trivial | rfl | apply And.intro)) rfl rfl (by repeat' (first | exact trivial | rfl | exact .inl rfl | exact .inr rfl | apply And.intro)) ?_
  go_simp
  (repeat (simp (disch := omega) only [dT, dF, nT, nF, wA, wB, wC, wD]; try go_simp))
  (repeat (refine ⟨by (repeat' apply And.intro) <;> first | omega | trivial | assumption | decide, ?_⟩))
  (repeat' (first | refine awp_block ?_ | ((first | refine awp_tk [] (by kernel_rfl) (fun K hK => ?_) | refine awp_dk [] mixed (by kernel_rfl) (by kernel_rfl) (fun K hK => ?_)); go_simp; (repeat (simp (disch := omega) only [dT, dF, nT, nF, wA, wB, wC, wD]; try go_simp)); (repeat (refine ⟨by (repeat' apply And.intro) <;> first | omega | trivial | assumption | decide, ?_⟩)); (first | (refine hK _ ?_; clear hK K) | (clear hK K; refine hK _ ?_; clear hK K) | (clear hK K; clear hK K; refine hK _ ?_; clear hK K) | (clear hK K; clear hK K; clear hK K; refine hK _ ?_; clear hK K))) | refine awp_ct rfl ?_ | refine awp_cf rfl ?_ | (first | (refine awp_skip (hK _ ?_); clear hK K) | (clear hK K; refine awp_skip (hK _ ?_); clear hK K) | (clear hK K; clear hK K; refine awp_skip (hK _ ?_); clear hK K) | (clear hK K; clear hK K; clear hK K; refine awp_skip (hK _ ?_); clear hK K)) | refine awp_seqk (fun K hK => ?_) | ((first | refine awp_t [] (by kernel_rfl) ?_ | refine awp_d [] mixed (by kernel_rfl) (by kernel_rfl) ?_); go_simp; (repeat (simp (disch := omega) only [dT, dF, nT, nF, wA, wB, wC, wD]; try go_simp)); (repeat (refine ⟨by (repeat' apply And.intro) <;> first | omega | trivial | assumption | decide, ?_⟩))) | (first | (refine hK _ ?_; clear hK K) | (clear hK K; refine hK _ ?_; clear hK K) | (clear hK K; clear hK K; refine hK _ ?_; clear hK K) | (clear hK K; clear hK K; clear hK K; refine hK _ ?_; clear hK K)) | (refine awp_exit ?_; simp only [thenA_exit, inBlk_exit, thenA_normal, inBlk_normal, ↓reduceIte, Nat.reduceEqDiff])))
  refine awp_rounds 4 ?_
  refine awp_round (fun K hK => ?_)
  (repeat' (first | refine awp_block ?_ | ((first | refine awp_tk [] (by kernel_rfl) (fun K hK => ?_) | refine awp_dk [] mixed (by kernel_rfl) (by kernel_rfl) (fun K hK => ?_)); go_simp; (repeat (simp (disch := omega) only [dT, dF, nT, nF, wA, wB, wC, wD]; try go_simp)); (repeat (refine ⟨by (repeat' apply And.intro) <;> first | omega | trivial | assumption | decide, ?_⟩)); (first | (refine hK _ ?_; clear hK K) | (clear hK K; refine hK _ ?_; clear hK K) | (clear hK K; clear hK K; refine hK _ ?_; clear hK K) | (clear hK K; clear hK K; clear hK K; refine hK _ ?_; clear hK K))) | refine awp_ct rfl ?_ | refine awp_cf rfl ?_ | (first | (refine awp_skip (hK _ ?_); clear hK K) | (clear hK K; refine awp_skip (hK _ ?_); clear hK K) | (clear hK K; clear hK K; refine awp_skip (hK _ ?_); clear hK K) | (clear hK K; clear hK K; clear hK K; refine awp_skip (hK _ ?_); clear hK K)) | refine awp_seqk (fun K hK => ?_) | ((first | refine awp_t [] (by kernel_rfl) ?_ | refine awp_d [] mixed (by kernel_rfl) (by kernel_rfl) ?_); go_simp; (repeat (simp (disch := omega) only [dT, dF, nT, nF, wA, wB, wC, wD]; try go_simp)); (repeat (refine ⟨by (repeat' apply And.intro) <;> first | omega | trivial | assumption | decide, ?_⟩))) | (first | (refine hK _ ?_; clear hK K) | (clear hK K; refine hK _ ?_; clear hK K) | (clear hK K; clear hK K; refine hK _ ?_; clear hK K) | (clear hK K; clear hK K; clear hK K; refine hK _ ?_; clear hK K)) | (refine awp_exit ?_; simp only [thenA_exit, inBlk_exit, thenA_normal, inBlk_normal, ↓reduceIte, Nat.reduceEqDiff])))
  refine awp_rounds 2 ?_
  refine awp_round (fun K hK => ?_)
  (repeat' (first | refine awp_block ?_ | ((first | refine awp_tk [] (by kernel_rfl) (fun K hK => ?_) | refine awp_dk [] mixed (by kernel_rfl) (by kernel_rfl) (fun K hK => ?_)); go_simp; (repeat (simp (disch := omega) only [dT, dF, nT, nF, wA, wB, wC, wD]; try go_simp)); (repeat (refine ⟨by (repeat' apply And.intro) <;> first | omega | trivial | assumption | decide, ?_⟩)); (first | (refine hK _ ?_; clear hK K) | (clear hK K; refine hK _ ?_; clear hK K) | (clear hK K; clear hK K; refine hK _ ?_; clear hK K) | (clear hK K; clear hK K; clear hK K; refine hK _ ?_; clear hK K))) | refine awp_ct rfl ?_ | refine awp_cf rfl ?_ | (first | (refine awp_skip (hK _ ?_); clear hK K) | (clear hK K; refine awp_skip (hK _ ?_); clear hK K) | (clear hK K; clear hK K; refine awp_skip (hK _ ?_); clear hK K) | (clear hK K; clear hK K; clear hK K; refine awp_skip (hK _ ?_); clear hK K)) | refine awp_seqk (fun K hK => ?_) | ((first | refine awp_t [] (by kernel_rfl) ?_ | refine awp_d [] mixed (by kernel_rfl) (by kernel_rfl) ?_); go_simp; (repeat (simp (disch := omega) only [dT, dF, nT, nF, wA, wB, wC, wD]; try go_simp)); (repeat (refine ⟨by (repeat' apply And.intro) <;> first | omega | trivial | assumption | decide, ?_⟩))) | (first | (refine hK _ ?_; clear hK K) | (clear hK K; refine hK _ ?_; clear hK K) | (clear hK K; clear hK K; refine hK _ ?_; clear hK K) | (clear hK K; clear hK K; clear hK K; refine hK _ ?_; clear hK K)) | (refine awp_exit ?_; simp only [thenA_exit, inBlk_exit, thenA_normal, inBlk_normal, ↓reduceIte, Nat.reduceEqDiff])))
  refine awp_rounds 3 ?_
  refine awp_round (fun K hK => ?_)
  (repeat' (first | refine awp_block ?_ | ((first | refine awp_tk [] (by kernel_rfl) (fun K hK => ?_) | refine awp_dk [] mixed (by kernel_rfl) (by kernel_rfl) (fun K hK => ?_)); go_simp; (repeat (simp (disch := omega) only [dT, dF, nT, nF, wA, wB, wC, wD]; try go_simp)); (repeat (refine ⟨by (repeat' apply And.intro) <;> first | omega | trivial | assumption | decide, ?_⟩)); (first | (refine hK _ ?_; clear hK K) | (clear hK K; refine hK _ ?_; clear hK K) | (clear hK K; clear hK K; refine hK _ ?_; clear hK K) | (clear hK K; clear hK K; clear hK K; refine hK _ ?_; clear hK K))) | refine awp_ct rfl ?_ | refine awp_cf rfl ?_ | (first | (refine awp_skip (hK _ ?_); clear hK K) | (clear hK K; refine awp_skip (hK _ ?_); clear hK K) | (clear hK K; clear hK K; refine awp_skip (hK _ ?_); clear hK K) | (clear hK K; clear hK K; clear hK K; refine awp_skip (hK _ ?_); clear hK K)) | refine awp_seqk (fun K hK => ?_) | ((first | refine awp_t [] (by kernel_rfl) ?_ | refine awp_d [] mixed (by kernel_rfl) (by kernel_rfl) ?_); go_simp; (repeat (simp (disch := omega) only [dT, dF, nT, nF, wA, wB, wC, wD]; try go_simp)); (repeat (refine ⟨by (repeat' apply And.intro) <;> first | omega | trivial | assumption | decide, ?_⟩))) | (first | (refine hK _ ?_; clear hK K) | (clear hK K; refine hK _ ?_; clear hK K) | (clear hK K; clear hK K; refine hK _ ?_; clear hK K) | (clear hK K; clear hK K; clear hK K; refine hK _ ?_; clear hK K)) | (refine awp_exit ?_; simp only [thenA_exit, inBlk_exit, thenA_normal, inBlk_normal, ↓reduceIte, Nat.reduceEqDiff])))
  refine callV (join_fx [1, 2] [-1] 1 (ex_inL (by decide)) (ex_inL (by decide)) (by decide)) rfl ?_
  go_simp
  (repeat (simp (disch := omega) only [dT, dF, nT, nF, wA, wB, wC, wD]; try go_simp))
  (repeat (refine ⟨by (repeat' apply And.intro) <;> first | omega | trivial | assumption | decide, ?_⟩))
  (repeat' (first | refine awp_block ?_ | ((first | refine awp_tk [] (by kernel_rfl) (fun K hK => ?_) | refine awp_dk [] mixed (by kernel_rfl) (by kernel_rfl) (fun K hK => ?_)); go_simp; (repeat (simp (disch := omega) only [dT, dF, nT, nF, wA, wB, wC, wD]; try go_simp)); (repeat (refine ⟨by (repeat' apply And.intro) <;> first | omega | trivial | assumption | decide, ?_⟩)); (first | (refine hK _ ?_; clear hK K) | (clear hK K; refine hK _ ?_; clear hK K) | (clear hK K; clear hK K; refine hK _ ?_; clear hK K) | (clear hK K; clear hK K; clear hK K; refine hK _ ?_; clear hK K))) | refine awp_ct rfl ?_ | refine awp_cf rfl ?_ | (first | (refine awp_skip (hK _ ?_); clear hK K) | (clear hK K; refine awp_skip (hK _ ?_); clear hK K) | (clear hK K; clear hK K; refine awp_skip (hK _ ?_); clear hK K) | (clear hK K; clear hK K; clear hK K; refine awp_skip (hK _ ?_); clear hK K)) | refine awp_seqk (fun K hK => ?_) | ((first | refine awp_t [] (by kernel_rfl) ?_ | refine awp_d [] mixed (by kernel_rfl) (by kernel_rfl) ?_); go_simp; (repeat (simp (disch := omega) only [dT, dF, nT, nF, wA, wB, wC, wD]; try go_simp)); (repeat (refine ⟨by (repeat' apply And.intro) <;> first | omega | trivial | assumption | decide, ?_⟩))) | (first | (refine hK _ ?_; clear hK K) | (clear hK K; refine hK _ ?_; clear hK K) | (clear hK K; clear hK K; refine hK _ ?_; clear hK K) | (clear hK K; clear hK K; clear hK K; refine hK _ ?_; clear hK K)) | (refine awp_exit ?_; simp only [thenA_exit, inBlk_exit, thenA_normal, inBlk_normal, ↓reduceIte, Nat.reduceEqDiff])))
  refine callV (join_fx [2] [-2] 2 (ex_inL (by decide)) (ex_inL (by decide)) (by decide)) rfl ?_
  go_simp
  (repeat (simp (disch := omega) only [dT, dF, nT, nF, wA, wB, wC, wD]; try go_simp))
  (repeat (refine ⟨by (repeat' apply And.intro) <;> first | omega | trivial | assumption | decide, ?_⟩))
  (repeat' (first | refine awp_block ?_ | ((first | refine awp_tk [] (by kernel_rfl) (fun K hK => ?_) | refine awp_dk [] mixed (by kernel_rfl) (by kernel_rfl) (fun K hK => ?_)); go_simp; (repeat (simp (disch := omega) only [dT, dF, nT, nF, wA, wB, wC, wD]; try go_simp)); (repeat (refine ⟨by (repeat' apply And.intro) <;> first | omega | trivial | assumption | decide, ?_⟩)); (first | (refine hK _ ?_; clear hK K) | (clear hK K; refine hK _ ?_; clear hK K) | (clear hK K; clear hK K; refine hK _ ?_; clear hK K) | (clear hK K; clear hK K; clear hK K; refine hK _ ?_; clear hK K))) | refine awp_ct rfl ?_ | refine awp_cf rfl ?_ | (first | (refine awp_skip (hK _ ?_); clear hK K) | (clear hK K; refine awp_skip (hK _ ?_); clear hK K) | (clear hK K; clear hK K; refine awp_skip (hK _ ?_); clear hK K) | (clear hK K; clear hK K; clear hK K; refine awp_skip (hK _ ?_); clear hK K)) | refine awp_seqk (fun K hK => ?_) | ((first | refine awp_t [] (by kernel_rfl) ?_ | refine awp_d [] mixed (by kernel_rfl) (by kernel_rfl) ?_); go_simp; (repeat (simp (disch := omega) only [dT, dF, nT, nF, wA, wB, wC, wD]; try go_simp)); (repeat (refine ⟨by (repeat' apply And.intro) <;> first | omega | trivial | assumption | decide, ?_⟩))) | (first | (refine hK _ ?_; clear hK K) | (clear hK K; refine hK _ ?_; clear hK K) | (clear hK K; clear hK K; refine hK _ ?_; clear hK K) | (clear hK K; clear hK K; clear hK K; refine hK _ ?_; clear hK K)) | (refine awp_exit ?_; simp only [thenA_exit, inBlk_exit, thenA_normal, inBlk_normal, ↓reduceIte, Nat.reduceEqDiff])))
  refine awp_weak (weak_freeze 111 (by decide) rfl) ?_
  simp only [frzS, frzAV, frzC, frzH, frzO, List.map_cons, List.map_nil, List.length_cons, List.length_nil, Nat.zero_add, Nat.reduceAdd, ↓reduceIte, Nat.reduceEqDiff]
  exact awp_ret ⟨_, (by repeat' (first | exact .nil | exact .tmp _ _ rfl | apply ResL.cons)), (by repeat' (first | exact Coe.refl _ | exact Coe.c CoeC.nil | exact Coe.c CoeC.z | exact .nil | apply Coe.tup | apply CoeA.cons)), rfl⟩
set_option maxHeartbeats 1000000 in
theorem checked_fx : FxPure Try.prog 5 [] (.c (.t (.v (.bool true)))) := by
  refine fx_pure 59 Try.func5 rfl rfl rfl rfl (fun hlen => ?_)
  clear hlen
  (repeat' (first | refine awp_block ?_ | ((first | refine awp_tk [] (by kernel_rfl) (fun K hK => ?_) | refine awp_dk [] mixed (by kernel_rfl) (by kernel_rfl) (fun K hK => ?_)); go_simp; (repeat (simp (disch := omega) only [dT, dF, nT, nF, wA, wB, wC, wD]; try go_simp)); (repeat (refine ⟨by (repeat' apply And.intro) <;> first | omega | trivial | assumption | decide, ?_⟩)); (first | (refine hK _ ?_; clear hK K) | (clear hK K; refine hK _ ?_; clear hK K) | (clear hK K; clear hK K; refine hK _ ?_; clear hK K) | (clear hK K; clear hK K; clear hK K; refine hK _ ?_; clear hK K))) | refine awp_ct rfl ?_ | refine awp_cf rfl ?_ | (first | (refine awp_skip (hK _ ?_); clear hK K) | (clear hK K; refine awp_skip (hK _ ?_); clear hK K) | (clear hK K; clear hK K; refine awp_skip (hK _ ?_); clear hK K) | (clear hK K; clear hK K; clear hK K; refine awp_skip (hK _ ?_); clear hK K)) | refine awp_seqk (fun K hK => ?_) | ((first | refine awp_t [] (by kernel_rfl) ?_ | refine awp_d [] mixed (by kernel_rfl) (by kernel_rfl) ?_); go_simp; (repeat (simp (disch := omega) only [dT, dF, nT, nF, wA, wB, wC, wD]; try go_simp)); (repeat (refine ⟨by (repeat' apply And.intro) <;> first | omega | trivial | assumption | decide, ?_⟩))) | (first | (refine hK _ ?_; clear hK K) | (clear hK K; refine hK _ ?_; clear hK K) | (clear hK K; clear hK K; refine hK _ ?_; clear hK K) | (clear hK K; clear hK K; clear hK K; refine hK _ ?_; clear hK K)) | (refine awp_exit ?_; simp only [thenA_exit, inBlk_exit, thenA_normal, inBlk_normal, ↓reduceIte, Nat.reduceEqDiff])))
  refine callV (check_ex) rfl ?_
  go_simp
  (repeat (simp (disch := omega) only [dT, dF, nT, nF, wA, wB, wC, wD]; try go_simp))
  (repeat (refine ⟨by (repeat' apply And.intro) <;> first | omega | trivial | assumption | decide, ?_⟩))
  (repeat' (first | refine awp_block ?_ | ((first | refine awp_tk [] (by kernel_rfl) (fun K hK => ?_) | refine awp_dk [] mixed (by kernel_rfl) (by kernel_rfl) (fun K hK => ?_)); go_simp; (repeat (simp (disch := omega) only [dT, dF, nT, nF, wA, wB, wC, wD]; try go_simp)); (repeat (refine ⟨by (repeat' apply And.intro) <;> first | omega | trivial | assumption | decide, ?_⟩)); (first | (refine hK _ ?_; clear hK K) | (clear hK K; refine hK _ ?_; clear hK K) | (clear hK K; clear hK K; refine hK _ ?_; clear hK K) | (clear hK K; clear hK K; clear hK K; refine hK _ ?_; clear hK K))) | refine awp_ct rfl ?_ | refine awp_cf rfl ?_ | (first | (refine awp_skip (hK _ ?_); clear hK K) | (clear hK K; refine awp_skip (hK _ ?_); clear hK K) | (clear hK K; clear hK K; refine awp_skip (hK _ ?_); clear hK K) | (clear hK K; clear hK K; clear hK K; refine awp_skip (hK _ ?_); clear hK K)) | refine awp_seqk (fun K hK => ?_) | ((first | refine awp_t [] (by kernel_rfl) ?_ | refine awp_d [] mixed (by kernel_rfl) (by kernel_rfl) ?_); go_simp; (repeat (simp (disch := omega) only [dT, dF, nT, nF, wA, wB, wC, wD]; try go_simp)); (repeat (refine ⟨by (repeat' apply And.intro) <;> first | omega | trivial | assumption | decide, ?_⟩))) | (first | (refine hK _ ?_; clear hK K) | (clear hK K; refine hK _ ?_; clear hK K) | (clear hK K; clear hK K; refine hK _ ?_; clear hK K) | (clear hK K; clear hK K; clear hK K; refine hK _ ?_; clear hK K)) | (refine awp_exit ?_; simp only [thenA_exit, inBlk_exit, thenA_normal, inBlk_normal, ↓reduceIte, Nat.reduceEqDiff])))
  refine callV (flat_ex) rfl ?_
  go_simp
  (repeat (simp (disch := omega) only [dT, dF, nT, nF, wA, wB, wC, wD]; try go_simp))
  (repeat (refine ⟨by (repeat' apply And.intro) <;> first | omega | trivial | assumption | decide, ?_⟩))
  (repeat' (first | refine awp_block ?_ | ((first | refine awp_tk [] (by kernel_rfl) (fun K hK => ?_) | refine awp_dk [] mixed (by kernel_rfl) (by kernel_rfl) (fun K hK => ?_)); go_simp; (repeat (simp (disch := omega) only [dT, dF, nT, nF, wA, wB, wC, wD]; try go_simp)); (repeat (refine ⟨by (repeat' apply And.intro) <;> first | omega | trivial | assumption | decide, ?_⟩)); (first | (refine hK _ ?_; clear hK K) | (clear hK K; refine hK _ ?_; clear hK K) | (clear hK K; clear hK K; refine hK _ ?_; clear hK K) | (clear hK K; clear hK K; clear hK K; refine hK _ ?_; clear hK K))) | refine awp_ct rfl ?_ | refine awp_cf rfl ?_ | (first | (refine awp_skip (hK _ ?_); clear hK K) | (clear hK K; refine awp_skip (hK _ ?_); clear hK K) | (clear hK K; clear hK K; refine awp_skip (hK _ ?_); clear hK K) | (clear hK K; clear hK K; clear hK K; refine awp_skip (hK _ ?_); clear hK K)) | refine awp_seqk (fun K hK => ?_) | ((first | refine awp_t [] (by kernel_rfl) ?_ | refine awp_d [] mixed (by kernel_rfl) (by kernel_rfl) ?_); go_simp; (repeat (simp (disch := omega) only [dT, dF, nT, nF, wA, wB, wC, wD]; try go_simp)); (repeat (refine ⟨by (repeat' apply And.intro) <;> first | omega | trivial | assumption | decide, ?_⟩))) | (first | (refine hK _ ?_; clear hK K) | (clear hK K; refine hK _ ?_; clear hK K) | (clear hK K; clear hK K; refine hK _ ?_; clear hK K) | (clear hK K; clear hK K; clear hK K; refine hK _ ?_; clear hK K)) | (refine awp_exit ?_; simp only [thenA_exit, inBlk_exit, thenA_normal, inBlk_normal, ↓reduceIte, Nat.reduceEqDiff])))
  refine callV (ints_fx [2] [2] (by decide) (by decide)) rfl ?_
  go_simp
  (repeat (simp (disch := omega) only [dT, dF, nT, nF, wA, wB, wC, wD]; try go_simp))
  (repeat (refine ⟨by (repeat' apply And.intro) <;> first | omega | trivial | assumption | decide, ?_⟩))
  refine callV (ints_fx [4, 3] [4, 3] (by decide) (by decide)) rfl ?_
  go_simp
  (repeat (simp (disch := omega) only [dT, dF, nT, nF, wA, wB, wC, wD]; try go_simp))
  (repeat (refine ⟨by (repeat' apply And.intro) <;> first | omega | trivial | assumption | decide, ?_⟩))
  (repeat' (first | refine awp_block ?_ | ((first | refine awp_tk [] (by kernel_rfl) (fun K hK => ?_) | refine awp_dk [] mixed (by kernel_rfl) (by kernel_rfl) (fun K hK => ?_)); go_simp; (repeat (simp (disch := omega) only [dT, dF, nT, nF, wA, wB, wC, wD]; try go_simp)); (repeat (refine ⟨by (repeat' apply And.intro) <;> first | omega | trivial | assumption | decide, ?_⟩)); (first | (refine hK _ ?_; clear hK K) | (clear hK K; refine hK _ ?_; clear hK K) | (clear hK K; clear hK K; refine hK _ ?_; clear hK K) | (clear hK K; clear hK K; clear hK K; refine hK _ ?_; clear hK K))) | refine awp_ct rfl ?_ | refine awp_cf rfl ?_ | (first | (refine awp_skip (hK _ ?_); clear hK K) | (clear hK K; refine awp_skip (hK _ ?_); clear hK K) | (clear hK K; clear hK K; refine awp_skip (hK _ ?_); clear hK K) | (clear hK K; clear hK K; clear hK K; refine awp_skip (hK _ ?_); clear hK K)) | refine awp_seqk (fun K hK => ?_) | ((first | refine awp_t [] (by kernel_rfl) ?_ | refine awp_d [] mixed (by kernel_rfl) (by kernel_rfl) ?_); go_simp; (repeat (simp (disch := omega) only [dT, dF, nT, nF, wA, wB, wC, wD]; try go_simp)); (repeat (refine ⟨by (repeat' apply And.intro) <;> first | omega | trivial | assumption | decide, ?_⟩))) | (first | (refine hK _ ?_; clear hK K) | (clear hK K; refine hK _ ?_; clear hK K) | (clear hK K; clear hK K; refine hK _ ?_; clear hK K) | (clear hK K; clear hK K; clear hK K; refine hK _ ?_; clear hK K)) | (refine awp_exit ?_; simp only [thenA_exit, inBlk_exit, thenA_normal, inBlk_normal, ↓reduceIte, Nat.reduceEqDiff])))
  exact awp_ret ⟨_, (by repeat' (first | exact .nil | exact .tmp _ _ rfl | apply ResL.cons)), (by repeat' (first | exact Coe.refl _ | exact Coe.c CoeC.nil | exact Coe.c CoeC.z | exact .nil | apply Coe.tup | apply CoeA.cons)), rfl⟩
end Go.Proofs.Ytiimkhnngpfnbaa.Fx
