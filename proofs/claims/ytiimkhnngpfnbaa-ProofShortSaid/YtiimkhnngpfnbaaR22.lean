/- Parts of the proofs, put together: PfY. -/
import Derived.Test.YtiimkhnngpfnbaaR21
/- ProofShort, walked on trees. -/
namespace Go.Proofs.Ytiimkhnngpfnbaa.Fx
open Go.RowKit
set_option linter.unusedVariables false
set_option linter.unusedSimpArgs false
set_option maxRecDepth 100000
theorem joinR_range {A B : List Int} {w : Int} {d : List Int} (hA : Small A) (hB : Small B) (h : joinR A B w = some d) : 1 ≤ w ∧ w ≤ 8 := by
  have key : ∀ {X Y : List Int}, Small X → resB X Y w = true → 1 ≤ w ∧ w ≤ 8 := fun hX hr => by
    unfold resB at hr
    simp only [Bool.and_eq_true, decide_eq_true_eq] at hr
    obtain ⟨⟨⟨h1, h2⟩, _⟩, _⟩ := hr
    have := hX.2 w ((hasB_iff _ _).1 h2)
    omega
  unfold joinR at h
  split at h
  · rename_i e; exact key hA e
  · split at h
    · rename_i e; exact key hB e
    · cases h
/-- what is trimmed may be looked at -/
theorem trim_ok {l : List (List Int)} {S : List StepD} (hD : Der l S) (hS : ∀ c ∈ clsOf l S, Small c) (h0 : 0 < S.length) (hn : l.length + S.length ≤ 10000) : (trimV l.length S).1.length ≤ S.length ∧ ∀ x ∈ (trimV l.length S).1, StepOk 16 x ∧ x.cl.length ≤ 1000 ∧ x.fr.length ≤ 1000 ∧ x.on.length ≤ 1000 := by
  have hN := ned_of (l := l) h0
  have hT := trim_short hD h0
  have hl := hN.len
  refine ⟨by show (renV l.length (numV (needV l.length S)) S 0).length ≤ S.length; rw [← renV_all]; exact renTo_len _ _ _ _, fun x hx => ?_⟩
  obtain ⟨m, hm, rfl⟩ := List.mem_iff_getElem.1 hx
  obtain ⟨i, g1, g2, g3, g4⟩ := hT.at_ m hm
  rw [getD_lt hm] at g4
  obtain ⟨a, b, w, c, ha, hb, hs, hj⟩ := hD i g1
  have hsm : ∀ q, q < l.length + i → Small ((l ++ S.map (·.cl)).getD q []) := fun q hq => by
    have hq2 : q < (l ++ S.map (·.cl)).length := by simp; omega
    rw [getD_lt hq2]; exact hS _ (List.getElem_mem hq2)
  have hw := joinR_range (hsm a ha) (hsm b hb) hj
  have hc := joinR_small (hsm a ha) (hsm b hb) hj
  rw [g4, hs]
  have hfr : ∀ z ∈ (renS l.length i (numV (needV l.length S)) ⟨c, [(a : Int) + 1, (b : Int) + 1], [w]⟩).fr, 0 ≤ z ∧ z ≤ 100000 := by
    intro z hz
    unfold renS at hz
    simp only [List.mem_map] at hz
    obtain ⟨y, _, rfl⟩ := hz
    split
    · by_cases hy : y.toNat < (numV (needV l.length S)).length
      · have hy2 : y.toNat < (needV l.length S).length := by rw [numV_len] at hy; exact hy
        rw [numV_get _ _ hy2]
        split
        · have : cntV (needV l.length S) (y.toNat + 1) ≤ y.toNat + 1 := by unfold cntV; exact Nat.le_trans List.countP_le_length (by rw [List.length_take]; omega)
          omega
        · omega
      · rw [List.getD_eq_getElem?_getD, List.getElem?_eq_none (by omega)]; simp
    · omega
  have hcl := hc.1
  refine ⟨⟨hc.inB, fun z hz => by have := hfr z hz; omega, fun v hv => ?_, by simp [renS], by simp [renS], by simp [renS]⟩, by show c.length ≤ 1000; omega, by simp [renS], by simp [renS]⟩
  have : v = w := by simpa [renS] using hv
  omega
theorem small_of {l : List (List Int)} (h1 : fewS l [] = true) (h2 : chkF 8 l = 0) : l.length ≤ 40 ∧ ∀ c ∈ l, Small c := by
  unfold fewS at h1
  simp only [Bool.and_eq_true, decide_eq_true_eq, List.all_eq_true] at h1
  refine ⟨h1.1.1.1, fun c hc => ⟨by have := h1.1.2 c hc; omega, fun x hx => ?_⟩⟩
  have h3 : l.all (Go.Proofs.Ytiimkhnngpfnbaa.okC 8) = true := by
    unfold chkF at h2
    split at h2
    · cases h2
    · split at h2
      · cases h2
      · split at h2
        · assumption
        · cases h2
  have h4 := List.all_eq_true.1 h3 c hc
  unfold Go.Proofs.Ytiimkhnngpfnbaa.okC at h4
  have h5 := List.all_eq_true.1 h4 x hx
  rcases fitB_cases 8 x with h | h | h | h
  · rw [h.2] at h5; cases h5
  · rw [h.2.2] at h5; cases h5
  · rw [h.2.2.2] at h5; cases h5
  · omega
set_option maxHeartbeats 8000000 in
theorem short_fx (l : List (List Int)) (ps : List (Int × Int × Int)) : FxPure Try.prog 4 [.c (.t (.s (l.map intsR))), .c (.t (.s (ps.map pickR)))] (.c (.t (.v (.bool true)))) := by
  refine fx_pure 124 Try.func4 rfl rfl rfl rfl (fun hlen => ?_)
  clear hlen
  cases hf : fewS l [] with
  | false =>
    (repeat' (first | refine awp_block ?_ | ((first | refine awp_tk [] (by kernel_rfl) (fun K hK => ?_) | refine awp_dk [] mixed (by kernel_rfl) (by kernel_rfl) (fun K hK => ?_)); go_simp; (repeat (simp (disch := omega) only [dT, dF, nT, nF, wA, wB, wC, wD]; try go_simp)); (repeat (refine ⟨by (repeat' apply And.intro) <;> first | omega | trivial | assumption | decide, ?_⟩)); (first | (refine hK _ ?_; clear hK K) | (clear hK K; refine hK _ ?_; clear hK K) | (clear hK K; clear hK K; refine hK _ ?_; clear hK K) | (clear hK K; clear hK K; clear hK K; refine hK _ ?_; clear hK K))) | refine awp_ct rfl ?_ | refine awp_cf rfl ?_ | (first | (refine awp_skip (hK _ ?_); clear hK K) | (clear hK K; refine awp_skip (hK _ ?_); clear hK K) | (clear hK K; clear hK K; refine awp_skip (hK _ ?_); clear hK K) | (clear hK K; clear hK K; clear hK K; refine awp_skip (hK _ ?_); clear hK K)) | refine awp_seqk (fun K hK => ?_) | ((first | refine awp_t [] (by kernel_rfl) ?_ | refine awp_d [] mixed (by kernel_rfl) (by kernel_rfl) ?_); go_simp; (repeat (simp (disch := omega) only [dT, dF, nT, nF, wA, wB, wC, wD]; try go_simp)); (repeat (refine ⟨by (repeat' apply And.intro) <;> first | omega | trivial | assumption | decide, ?_⟩))) | (first | (refine hK _ ?_; clear hK K) | (clear hK K; refine hK _ ?_; clear hK K) | (clear hK K; clear hK K; refine hK _ ?_; clear hK K) | (clear hK K; clear hK K; clear hK K; refine hK _ ?_; clear hK K)) | (refine awp_exit ?_; simp only [thenA_exit, inBlk_exit, thenA_normal, inBlk_normal, ↓reduceIte, Nat.reduceEqDiff])))
    refine callV (checked_fx) rfl ?_
    go_simp
    (repeat (simp (disch := omega) only [dT, dF, nT, nF, wA, wB, wC, wD]; try go_simp))
    (repeat (refine ⟨by (repeat' apply And.intro) <;> first | omega | trivial | assumption | decide, ?_⟩))
    refine callC (few_fx l []) (by repeat' (first | exact .nil | exact Coe.refl _ | exact Coe.c CoeC.nil | exact Coe.c CoeC.z | apply CoeA.cons)) rfl ?_
    go_simp
    (repeat (simp (disch := omega) only [dT, dF, nT, nF, wA, wB, wC, wD]; try go_simp))
    (repeat (refine ⟨by (repeat' apply And.intro) <;> first | omega | trivial | assumption | decide, ?_⟩))
    (repeat' (first | refine awp_block ?_ | ((first | refine awp_tk [] (by kernel_rfl) (fun K hK => ?_) | refine awp_dk [] mixed (by kernel_rfl) (by kernel_rfl) (fun K hK => ?_)); go_simp; (repeat (simp (disch := omega) only [dT, dF, nT, nF, wA, wB, wC, wD]; try go_simp)); (repeat (refine ⟨by (repeat' apply And.intro) <;> first | omega | trivial | assumption | decide, ?_⟩)); (first | (refine hK _ ?_; clear hK K) | (clear hK K; refine hK _ ?_; clear hK K) | (clear hK K; clear hK K; refine hK _ ?_; clear hK K) | (clear hK K; clear hK K; clear hK K; refine hK _ ?_; clear hK K))) | refine awp_ct rfl ?_ | refine awp_cf rfl ?_ | (first | (refine awp_skip (hK _ ?_); clear hK K) | (clear hK K; refine awp_skip (hK _ ?_); clear hK K) | (clear hK K; clear hK K; refine awp_skip (hK _ ?_); clear hK K) | (clear hK K; clear hK K; clear hK K; refine awp_skip (hK _ ?_); clear hK K)) | refine awp_seqk (fun K hK => ?_) | ((first | refine awp_t [] (by kernel_rfl) ?_ | refine awp_d [] mixed (by kernel_rfl) (by kernel_rfl) ?_); go_simp; (repeat (simp (disch := omega) only [dT, dF, nT, nF, wA, wB, wC, wD]; try go_simp)); (repeat (refine ⟨by (repeat' apply And.intro) <;> first | omega | trivial | assumption | decide, ?_⟩))) | (first | (refine hK _ ?_; clear hK K) | (clear hK K; refine hK _ ?_; clear hK K) | (clear hK K; clear hK K; refine hK _ ?_; clear hK K) | (clear hK K; clear hK K; clear hK K; refine hK _ ?_; clear hK K)) | (refine awp_exit ?_; simp only [thenA_exit, inBlk_exit, thenA_normal, inBlk_normal, ↓reduceIte, Nat.reduceEqDiff])))
    refine callV (checked_fx) rfl ?_
    go_simp
    (repeat (simp (disch := omega) only [dT, dF, nT, nF, wA, wB, wC, wD]; try go_simp))
    (repeat (refine ⟨by (repeat' apply And.intro) <;> first | omega | trivial | assumption | decide, ?_⟩))
    (repeat' (first | refine awp_block ?_ | ((first | refine awp_tk [] (by kernel_rfl) (fun K hK => ?_) | refine awp_dk [] mixed (by kernel_rfl) (by kernel_rfl) (fun K hK => ?_)); go_simp; (repeat (simp (disch := omega) only [dT, dF, nT, nF, wA, wB, wC, wD]; try go_simp)); (repeat (refine ⟨by (repeat' apply And.intro) <;> first | omega | trivial | assumption | decide, ?_⟩)); (first | (refine hK _ ?_; clear hK K) | (clear hK K; refine hK _ ?_; clear hK K) | (clear hK K; clear hK K; refine hK _ ?_; clear hK K) | (clear hK K; clear hK K; clear hK K; refine hK _ ?_; clear hK K))) | refine awp_ct rfl ?_ | refine awp_cf rfl ?_ | (first | (refine awp_skip (hK _ ?_); clear hK K) | (clear hK K; refine awp_skip (hK _ ?_); clear hK K) | (clear hK K; clear hK K; refine awp_skip (hK _ ?_); clear hK K) | (clear hK K; clear hK K; clear hK K; refine awp_skip (hK _ ?_); clear hK K)) | refine awp_seqk (fun K hK => ?_) | ((first | refine awp_t [] (by kernel_rfl) ?_ | refine awp_d [] mixed (by kernel_rfl) (by kernel_rfl) ?_); go_simp; (repeat (simp (disch := omega) only [dT, dF, nT, nF, wA, wB, wC, wD]; try go_simp)); (repeat (refine ⟨by (repeat' apply And.intro) <;> first | omega | trivial | assumption | decide, ?_⟩))) | (first | (refine hK _ ?_; clear hK K) | (clear hK K; refine hK _ ?_; clear hK K) | (clear hK K; clear hK K; refine hK _ ?_; clear hK K) | (clear hK K; clear hK K; clear hK K; refine hK _ ?_; clear hK K)) | (refine awp_exit ?_; simp only [thenA_exit, inBlk_exit, thenA_normal, inBlk_normal, ↓reduceIte, Nat.reduceEqDiff])))
    exact awp_ret ⟨_, (by repeat' (first | exact .nil | exact .tmp _ _ rfl | apply ResL.cons)), (by repeat' (first | exact Coe.refl _ | exact Coe.c CoeC.nil | exact Coe.c CoeC.z | exact .nil | apply Coe.tup | apply CoeA.cons)), rfl⟩
  | true =>
    by_cases hp : 40 < ps.length
    · (repeat' (first | refine awp_block ?_ | ((first | refine awp_tk [] (by kernel_rfl) (fun K hK => ?_) | refine awp_dk [] mixed (by kernel_rfl) (by kernel_rfl) (fun K hK => ?_)); go_simp; (repeat (simp (disch := omega) only [dT, dF, nT, nF, wA, wB, wC, wD]; try go_simp)); (repeat (refine ⟨by (repeat' apply And.intro) <;> first | omega | trivial | assumption | decide, ?_⟩)); (first | (refine hK _ ?_; clear hK K) | (clear hK K; refine hK _ ?_; clear hK K) | (clear hK K; clear hK K; refine hK _ ?_; clear hK K) | (clear hK K; clear hK K; clear hK K; refine hK _ ?_; clear hK K))) | refine awp_ct rfl ?_ | refine awp_cf rfl ?_ | (first | (refine awp_skip (hK _ ?_); clear hK K) | (clear hK K; refine awp_skip (hK _ ?_); clear hK K) | (clear hK K; clear hK K; refine awp_skip (hK _ ?_); clear hK K) | (clear hK K; clear hK K; clear hK K; refine awp_skip (hK _ ?_); clear hK K)) | refine awp_seqk (fun K hK => ?_) | ((first | refine awp_t [] (by kernel_rfl) ?_ | refine awp_d [] mixed (by kernel_rfl) (by kernel_rfl) ?_); go_simp; (repeat (simp (disch := omega) only [dT, dF, nT, nF, wA, wB, wC, wD]; try go_simp)); (repeat (refine ⟨by (repeat' apply And.intro) <;> first | omega | trivial | assumption | decide, ?_⟩))) | (first | (refine hK _ ?_; clear hK K) | (clear hK K; refine hK _ ?_; clear hK K) | (clear hK K; clear hK K; refine hK _ ?_; clear hK K) | (clear hK K; clear hK K; clear hK K; refine hK _ ?_; clear hK K)) | (refine awp_exit ?_; simp only [thenA_exit, inBlk_exit, thenA_normal, inBlk_normal, ↓reduceIte, Nat.reduceEqDiff])))
      refine callV (checked_fx) rfl ?_
      go_simp
      (repeat (simp (disch := omega) only [dT, dF, nT, nF, wA, wB, wC, wD]; try go_simp))
      (repeat (refine ⟨by (repeat' apply And.intro) <;> first | omega | trivial | assumption | decide, ?_⟩))
      refine callC (few_fx l []) (by repeat' (first | exact .nil | exact Coe.refl _ | exact Coe.c CoeC.nil | exact Coe.c CoeC.z | apply CoeA.cons)) rfl ?_
      go_simp
      (repeat (simp (disch := omega) only [dT, dF, nT, nF, wA, wB, wC, wD]; try go_simp))
      (repeat (refine ⟨by (repeat' apply And.intro) <;> first | omega | trivial | assumption | decide, ?_⟩))
      (repeat' (first | refine awp_block ?_ | ((first | refine awp_tk [] (by kernel_rfl) (fun K hK => ?_) | refine awp_dk [] mixed (by kernel_rfl) (by kernel_rfl) (fun K hK => ?_)); go_simp; (repeat (simp (disch := omega) only [dT, dF, nT, nF, wA, wB, wC, wD]; try go_simp)); (repeat (refine ⟨by (repeat' apply And.intro) <;> first | omega | trivial | assumption | decide, ?_⟩)); (first | (refine hK _ ?_; clear hK K) | (clear hK K; refine hK _ ?_; clear hK K) | (clear hK K; clear hK K; refine hK _ ?_; clear hK K) | (clear hK K; clear hK K; clear hK K; refine hK _ ?_; clear hK K))) | refine awp_ct rfl ?_ | refine awp_cf rfl ?_ | (first | (refine awp_skip (hK _ ?_); clear hK K) | (clear hK K; refine awp_skip (hK _ ?_); clear hK K) | (clear hK K; clear hK K; refine awp_skip (hK _ ?_); clear hK K) | (clear hK K; clear hK K; clear hK K; refine awp_skip (hK _ ?_); clear hK K)) | refine awp_seqk (fun K hK => ?_) | ((first | refine awp_t [] (by kernel_rfl) ?_ | refine awp_d [] mixed (by kernel_rfl) (by kernel_rfl) ?_); go_simp; (repeat (simp (disch := omega) only [dT, dF, nT, nF, wA, wB, wC, wD]; try go_simp)); (repeat (refine ⟨by (repeat' apply And.intro) <;> first | omega | trivial | assumption | decide, ?_⟩))) | (first | (refine hK _ ?_; clear hK K) | (clear hK K; refine hK _ ?_; clear hK K) | (clear hK K; clear hK K; refine hK _ ?_; clear hK K) | (clear hK K; clear hK K; clear hK K; refine hK _ ?_; clear hK K)) | (refine awp_exit ?_; simp only [thenA_exit, inBlk_exit, thenA_normal, inBlk_normal, ↓reduceIte, Nat.reduceEqDiff])))
      refine callV (checked_fx) rfl ?_
      go_simp
      (repeat (simp (disch := omega) only [dT, dF, nT, nF, wA, wB, wC, wD]; try go_simp))
      (repeat (refine ⟨by (repeat' apply And.intro) <;> first | omega | trivial | assumption | decide, ?_⟩))
      (repeat' (first | refine awp_block ?_ | ((first | refine awp_tk [] (by kernel_rfl) (fun K hK => ?_) | refine awp_dk [] mixed (by kernel_rfl) (by kernel_rfl) (fun K hK => ?_)); go_simp; (repeat (simp (disch := omega) only [dT, dF, nT, nF, wA, wB, wC, wD]; try go_simp)); (repeat (refine ⟨by (repeat' apply And.intro) <;> first | omega | trivial | assumption | decide, ?_⟩)); (first | (refine hK _ ?_; clear hK K) | (clear hK K; refine hK _ ?_; clear hK K) | (clear hK K; clear hK K; refine hK _ ?_; clear hK K) | (clear hK K; clear hK K; clear hK K; refine hK _ ?_; clear hK K))) | refine awp_ct rfl ?_ | refine awp_cf rfl ?_ | (first | (refine awp_skip (hK _ ?_); clear hK K) | (clear hK K; refine awp_skip (hK _ ?_); clear hK K) | (clear hK K; clear hK K; refine awp_skip (hK _ ?_); clear hK K) | (clear hK K; clear hK K; clear hK K; refine awp_skip (hK _ ?_); clear hK K)) | refine awp_seqk (fun K hK => ?_) | ((first | refine awp_t [] (by kernel_rfl) ?_ | refine awp_d [] mixed (by kernel_rfl) (by kernel_rfl) ?_); go_simp; (repeat (simp (disch := omega) only [dT, dF, nT, nF, wA, wB, wC, wD]; try go_simp)); (repeat (refine ⟨by (repeat' apply And.intro) <;> first | omega | trivial | assumption | decide, ?_⟩))) | (first | (refine hK _ ?_; clear hK K) | (clear hK K; refine hK _ ?_; clear hK K) | (clear hK K; clear hK K; refine hK _ ?_; clear hK K) | (clear hK K; clear hK K; clear hK K; refine hK _ ?_; clear hK K)) | (refine awp_exit ?_; simp only [thenA_exit, inBlk_exit, thenA_normal, inBlk_normal, ↓reduceIte, Nat.reduceEqDiff])))
      exact awp_ret ⟨_, (by repeat' (first | exact .nil | exact .tmp _ _ rfl | apply ResL.cons)), (by repeat' (first | exact Coe.refl _ | exact Coe.c CoeC.nil | exact Coe.c CoeC.z | exact .nil | apply Coe.tup | apply CoeA.cons)), rfl⟩
    have hl40 : l.length ≤ 40 := by
      unfold fewS at hf
      simp only [Bool.and_eq_true, decide_eq_true_eq] at hf
      exact hf.1.1.1
    obtain ⟨ck, hck⟩ : ∃ ck, chkF 8 l = ck := ⟨_, rfl⟩
    by_cases hc0 : ck = 0
    · subst hc0
      obtain ⟨_, hsm⟩ := small_of hf hck
      obtain ⟨d1, d2, d3, d4⟩ := derive_fx l ps hsm (by omega) (by omega)
      have D1 := Lib.hid d1
      have D2 := Lib.hid d2
      have D3 := Lib.hid d3
      clear d1 d2 d3 hsm
      obtain ⟨S, hS⟩ : ∃ S, derP l ps [] = S := ⟨_, rfl⟩
      rw [hS] at D1 D2 D3 d4
      clear hS
      (repeat' (first | refine awp_block ?_ | ((first | refine awp_tk [] (by kernel_rfl) (fun K hK => ?_) | refine awp_dk [] mixed (by kernel_rfl) (by kernel_rfl) (fun K hK => ?_)); go_simp; (repeat (simp (disch := omega) only [dT, dF, nT, nF, wA, wB, wC, wD]; try go_simp)); (repeat (refine ⟨by (repeat' apply And.intro) <;> first | omega | trivial | assumption | decide, ?_⟩)); (first | (refine hK _ ?_; clear hK K) | (clear hK K; refine hK _ ?_; clear hK K) | (clear hK K; clear hK K; refine hK _ ?_; clear hK K) | (clear hK K; clear hK K; clear hK K; refine hK _ ?_; clear hK K))) | refine awp_ct rfl ?_ | refine awp_cf rfl ?_ | (first | (refine awp_skip (hK _ ?_); clear hK K) | (clear hK K; refine awp_skip (hK _ ?_); clear hK K) | (clear hK K; clear hK K; refine awp_skip (hK _ ?_); clear hK K) | (clear hK K; clear hK K; clear hK K; refine awp_skip (hK _ ?_); clear hK K)) | refine awp_seqk (fun K hK => ?_) | ((first | refine awp_t [] (by kernel_rfl) ?_ | refine awp_d [] mixed (by kernel_rfl) (by kernel_rfl) ?_); go_simp; (repeat (simp (disch := omega) only [dT, dF, nT, nF, wA, wB, wC, wD]; try go_simp)); (repeat (refine ⟨by (repeat' apply And.intro) <;> first | omega | trivial | assumption | decide, ?_⟩))) | (first | (refine hK _ ?_; clear hK K) | (clear hK K; refine hK _ ?_; clear hK K) | (clear hK K; clear hK K; refine hK _ ?_; clear hK K) | (clear hK K; clear hK K; clear hK K; refine hK _ ?_; clear hK K)) | (refine awp_exit ?_; simp only [thenA_exit, inBlk_exit, thenA_normal, inBlk_normal, ↓reduceIte, Nat.reduceEqDiff])))
      refine callV (checked_fx) rfl ?_
      go_simp
      (repeat (simp (disch := omega) only [dT, dF, nT, nF, wA, wB, wC, wD]; try go_simp))
      (repeat (refine ⟨by (repeat' apply And.intro) <;> first | omega | trivial | assumption | decide, ?_⟩))
      refine callC (few_fx l []) (by repeat' (first | exact .nil | exact Coe.refl _ | exact Coe.c CoeC.nil | exact Coe.c CoeC.z | apply CoeA.cons)) rfl ?_
      go_simp
      (repeat (simp (disch := omega) only [dT, dF, nT, nF, wA, wB, wC, wD]; try go_simp))
      (repeat (refine ⟨by (repeat' apply And.intro) <;> first | omega | trivial | assumption | decide, ?_⟩))
      refine callV (rcheck_fx 8 l (by omega) (by omega)) rfl ?_
      go_simp
      (repeat (simp (disch := omega) only [dT, dF, nT, nF, wA, wB, wC, wD]; try go_simp))
      (repeat (refine ⟨by (repeat' apply And.intro) <;> first | omega | trivial | assumption | decide, ?_⟩))
      (repeat' (first | refine awp_block ?_ | ((first | refine awp_tk [] (by kernel_rfl) (fun K hK => ?_) | refine awp_dk [] mixed (by kernel_rfl) (by kernel_rfl) (fun K hK => ?_)); go_simp; (repeat (simp (disch := omega) only [dT, dF, nT, nF, wA, wB, wC, wD]; try go_simp)); (repeat (refine ⟨by (repeat' apply And.intro) <;> first | omega | trivial | assumption | decide, ?_⟩)); (first | (refine hK _ ?_; clear hK K) | (clear hK K; refine hK _ ?_; clear hK K) | (clear hK K; clear hK K; refine hK _ ?_; clear hK K) | (clear hK K; clear hK K; clear hK K; refine hK _ ?_; clear hK K))) | refine awp_ct rfl ?_ | refine awp_cf rfl ?_ | (first | (refine awp_skip (hK _ ?_); clear hK K) | (clear hK K; refine awp_skip (hK _ ?_); clear hK K) | (clear hK K; clear hK K; refine awp_skip (hK _ ?_); clear hK K) | (clear hK K; clear hK K; clear hK K; refine awp_skip (hK _ ?_); clear hK K)) | refine awp_seqk (fun K hK => ?_) | ((first | refine awp_t [] (by kernel_rfl) ?_ | refine awp_d [] mixed (by kernel_rfl) (by kernel_rfl) ?_); go_simp; (repeat (simp (disch := omega) only [dT, dF, nT, nF, wA, wB, wC, wD]; try go_simp)); (repeat (refine ⟨by (repeat' apply And.intro) <;> first | omega | trivial | assumption | decide, ?_⟩))) | (first | (refine hK _ ?_; clear hK K) | (clear hK K; refine hK _ ?_; clear hK K) | (clear hK K; clear hK K; refine hK _ ?_; clear hK K) | (clear hK K; clear hK K; clear hK K; refine hK _ ?_; clear hK K)) | (refine awp_exit ?_; simp only [thenA_exit, inBlk_exit, thenA_normal, inBlk_normal, ↓reduceIte, Nat.reduceEqDiff])))
      refine callV (D1.out) rfl ?_
      go_simp
      (repeat (simp (disch := omega) only [dT, dF, nT, nF, wA, wB, wC, wD]; try go_simp))
      (repeat (refine ⟨by (repeat' apply And.intro) <;> first | omega | trivial | assumption | decide, ?_⟩))
      by_cases hS0 : S = []
      · subst hS0
        (repeat' (first | refine awp_block ?_ | ((first | refine awp_tk [] (by kernel_rfl) (fun K hK => ?_) | refine awp_dk [] mixed (by kernel_rfl) (by kernel_rfl) (fun K hK => ?_)); go_simp; (repeat (simp (disch := omega) only [dT, dF, nT, nF, wA, wB, wC, wD]; try go_simp)); (repeat (refine ⟨by (repeat' apply And.intro) <;> first | omega | trivial | assumption | decide, ?_⟩)); (first | (refine hK _ ?_; clear hK K) | (clear hK K; refine hK _ ?_; clear hK K) | (clear hK K; clear hK K; refine hK _ ?_; clear hK K) | (clear hK K; clear hK K; clear hK K; refine hK _ ?_; clear hK K))) | refine awp_ct rfl ?_ | refine awp_cf rfl ?_ | (first | (refine awp_skip (hK _ ?_); clear hK K) | (clear hK K; refine awp_skip (hK _ ?_); clear hK K) | (clear hK K; clear hK K; refine awp_skip (hK _ ?_); clear hK K) | (clear hK K; clear hK K; clear hK K; refine awp_skip (hK _ ?_); clear hK K)) | refine awp_seqk (fun K hK => ?_) | ((first | refine awp_t [] (by kernel_rfl) ?_ | refine awp_d [] mixed (by kernel_rfl) (by kernel_rfl) ?_); go_simp; (repeat (simp (disch := omega) only [dT, dF, nT, nF, wA, wB, wC, wD]; try go_simp)); (repeat (refine ⟨by (repeat' apply And.intro) <;> first | omega | trivial | assumption | decide, ?_⟩))) | (first | (refine hK _ ?_; clear hK K) | (clear hK K; refine hK _ ?_; clear hK K) | (clear hK K; clear hK K; refine hK _ ?_; clear hK K) | (clear hK K; clear hK K; clear hK K; refine hK _ ?_; clear hK K)) | (refine awp_exit ?_; simp only [thenA_exit, inBlk_exit, thenA_normal, inBlk_normal, ↓reduceIte, Nat.reduceEqDiff])))
        exact awp_ret ⟨_, (by repeat' (first | exact .nil | exact .tmp _ _ rfl | apply ResL.cons)), (by repeat' (first | exact Coe.refl _ | exact Coe.c CoeC.nil | exact Coe.c CoeC.z | exact .nil | apply Coe.tup | apply CoeA.cons)), rfl⟩
      have hne : decide (S = []) = false := decide_eq_false hS0
      have hSp : 0 < S.length := List.length_pos_iff.2 hS0
      obtain ⟨q1, q2⟩ := trim_ok D2.out D3.out hSp (by omega)
      obtain ⟨p1, p2, p3, p4, p5, p6⟩ := short_law D2.out hSp
      have TF := Lib.hid (trim_fx l.length S (by omega) (by omega) hSp (fun x hx => by
        obtain ⟨i, hi, rfl⟩ := List.mem_iff_getElem.1 hx
        obtain ⟨a, b, w, c, _, _, hs, _⟩ := D2.out i hi
        rw [getD_lt hi] at hs
        have hcc := (D3.out S[i].cl (List.mem_append_right _ (List.mem_map_of_mem hx))).1
        rw [hs] at hcc ⊢
        exact ⟨by show c.length ≤ 1000000; have : c.length ≤ 16 := hcc; omega, by simp, by simp⟩) (fun x hx => by
        obtain ⟨i, hi, rfl⟩ := List.mem_iff_getElem.1 hx
        obtain ⟨a, b, w, c, ha, hb, hs, _⟩ := D2.out i hi
        rw [getD_lt hi] at hs
        rw [hs]
        intro y hy
        simp at hy
        omega))
      have hSL := (D3.out (S.getD (S.length - 1) default).cl (by
        rw [getD_lt (show S.length - 1 < S.length by omega)]
        exact List.mem_append_right _ (List.mem_map_of_mem (List.getElem_mem _)))).1
      have hu0 : (trimV l.length S).2.length ≤ l.length + S.length + 1 := by
        have h1 := usedTo_len l.length (needV l.length S) (needV l.length S).length
        have h2 := needV_len l.length S
        show (usedTo l.length (needV l.length S) (needV l.length S).length).length ≤ _
        omega
      obtain ⟨tr, htr⟩ : ∃ tr, trimV l.length S = tr := ⟨_, rfl⟩
      rw [htr] at hu0 q1 q2 p1 p2 p3 p4 p5 p6 TF
      obtain ⟨a, u⟩ := tr
      simp only at hu0 q1 q2 p1 p2 p3 p4 p5 p6
      clear htr hS0
      have hal : a.length ≤ 1000 := by omega
      have hul : u.length ≤ 1000 := by omega
      have Q2 := Lib.hid q2
      have P1 := Lib.hid p1
      have P3 := Lib.hid p3
      have P4 := Lib.hid p4
      have P5 := Lib.hid p5
      have P6 := Lib.hid p6
      clear q1 q2 p1 p3 p4 p5 p6
      have hna : decide (a = []) = false := decide_eq_false (fun h => by rw [h] at p2; exact absurd p2 (by decide))
      (repeat' (first | refine awp_block ?_ | ((first | refine awp_tk [] (by kernel_rfl) (fun K hK => ?_) | refine awp_dk [] mixed (by kernel_rfl) (by kernel_rfl) (fun K hK => ?_)); go_simp; (repeat (simp (disch := omega) only [dT, dF, nT, nF, wA, wB, wC, wD]; try go_simp)); (repeat (refine ⟨by (repeat' apply And.intro) <;> first | omega | trivial | assumption | decide, ?_⟩)); (first | (refine hK _ ?_; clear hK K) | (clear hK K; refine hK _ ?_; clear hK K) | (clear hK K; clear hK K; refine hK _ ?_; clear hK K) | (clear hK K; clear hK K; clear hK K; refine hK _ ?_; clear hK K))) | refine awp_ct rfl ?_ | refine awp_cf rfl ?_ | (first | (refine awp_skip (hK _ ?_); clear hK K) | (clear hK K; refine awp_skip (hK _ ?_); clear hK K) | (clear hK K; clear hK K; refine awp_skip (hK _ ?_); clear hK K) | (clear hK K; clear hK K; clear hK K; refine awp_skip (hK _ ?_); clear hK K)) | refine awp_seqk (fun K hK => ?_) | ((first | refine awp_t [] (by kernel_rfl) ?_ | refine awp_d [] mixed (by kernel_rfl) (by kernel_rfl) ?_); go_simp; (repeat (simp (disch := omega) only [dT, dF, nT, nF, wA, wB, wC, wD]; try go_simp)); (repeat (refine ⟨by (repeat' apply And.intro) <;> first | omega | trivial | assumption | decide, ?_⟩))) | (first | (refine hK _ ?_; clear hK K) | (clear hK K; refine hK _ ?_; clear hK K) | (clear hK K; clear hK K; refine hK _ ?_; clear hK K) | (clear hK K; clear hK K; clear hK K; refine hK _ ?_; clear hK K)) | (refine awp_exit ?_; simp only [thenA_exit, inBlk_exit, thenA_normal, inBlk_normal, ↓reduceIte, Nat.reduceEqDiff])))
      refine callV (back_fx S (by omega)) rfl ?_
      go_simp
      (repeat (simp (disch := omega) only [dT, dF, nT, nF, wA, wB, wC, wD]; try go_simp))
      (repeat (refine ⟨by (repeat' apply And.intro) <;> first | omega | trivial | assumption | decide, ?_⟩))
      refine callV (TF.out) rfl ?_
      go_simp
      (repeat (simp (disch := omega) only [dT, dF, nT, nF, wA, wB, wC, wD]; try go_simp))
      (repeat (refine ⟨by (repeat' apply And.intro) <;> first | omega | trivial | assumption | decide, ?_⟩))
      (repeat' (first | refine awp_block ?_ | ((first | refine awp_tk [] (by kernel_rfl) (fun K hK => ?_) | refine awp_dk [] mixed (by kernel_rfl) (by kernel_rfl) (fun K hK => ?_)); go_simp; (repeat (simp (disch := omega) only [dT, dF, nT, nF, wA, wB, wC, wD]; try go_simp)); (repeat (refine ⟨by (repeat' apply And.intro) <;> first | omega | trivial | assumption | decide, ?_⟩)); (first | (refine hK _ ?_; clear hK K) | (clear hK K; refine hK _ ?_; clear hK K) | (clear hK K; clear hK K; refine hK _ ?_; clear hK K) | (clear hK K; clear hK K; clear hK K; refine hK _ ?_; clear hK K))) | refine awp_ct rfl ?_ | refine awp_cf rfl ?_ | (first | (refine awp_skip (hK _ ?_); clear hK K) | (clear hK K; refine awp_skip (hK _ ?_); clear hK K) | (clear hK K; clear hK K; refine awp_skip (hK _ ?_); clear hK K) | (clear hK K; clear hK K; clear hK K; refine awp_skip (hK _ ?_); clear hK K)) | refine awp_seqk (fun K hK => ?_) | ((first | refine awp_t [] (by kernel_rfl) ?_ | refine awp_d [] mixed (by kernel_rfl) (by kernel_rfl) ?_); go_simp; (repeat (simp (disch := omega) only [dT, dF, nT, nF, wA, wB, wC, wD]; try go_simp)); (repeat (refine ⟨by (repeat' apply And.intro) <;> first | omega | trivial | assumption | decide, ?_⟩))) | (first | (refine hK _ ?_; clear hK K) | (clear hK K; refine hK _ ?_; clear hK K) | (clear hK K; clear hK K; refine hK _ ?_; clear hK K) | (clear hK K; clear hK K; clear hK K; refine hK _ ?_; clear hK K)) | (refine awp_exit ?_; simp only [thenA_exit, inBlk_exit, thenA_normal, inBlk_normal, ↓reduceIte, Nat.reduceEqDiff])))
      refine awp_weak (weak_adopt 8 8 27 1 (by decide) (.inl rfl) rfl) ?_
      refine awp_lp (fun s => ∃ k : Nat, ∃ C : List (List Int), k ≤ u.length ∧ C = (u.take k).map (fun z => l.getD (z - 1).toNat []) ∧ s = ⟨[(0, .c (.t (.s (l.map intsR)))), (5, .c (.t (.s (S.map stepR)))), (6, .c (.t (.s (a.map stepR)))), (7, .c (.t (.s (u.map intR)))), (8, .c (.own 8 C.length)), (9, .c (.t (.v (.int .i64 k))))], [(8, .row 27 1 (C.map intsR))]⟩) (fun s => u.length - nat 9 s) _ ?_ ⟨0, [], Nat.zero_le _, rfl, rfl⟩ ?_
      · refine weak_w (by repeat' (first | exact trivial | exact Coe.refl _ | exact Coe.c CoeC.nil | apply And.intro)) (by repeat' (first | exact trivial | rfl | apply And.intro)) rfl rfl (by repeat' (first | exact trivial | (intro h; first | rfl | (exfalso; omega)) | apply And.intro))
      · rintro s R ⟨k, C, hk, hC, rfl⟩ hR
        have HC := Lib.hid hC
        have hcl : C.length = k := by rw [hC, List.length_map, List.length_take]; omega
        clear hC
        by_cases hlt : k < u.length
        · have hz := P1.out u[k] (List.getElem_mem hlt)
          obtain ⟨z, hzz⟩ : ∃ z, u[k] = z := ⟨_, rfl⟩
          rw [hzz] at hz
          obtain ⟨m, rfl⟩ : ∃ m : Nat, z = (m : Int) + 1 := ⟨(z - 1).toNat, by omega⟩
          have hm : m < l.length := by omega
          have HG := Lib.hid (getD_lt hm ([] : List Int))
          have HT : Hid ((u.take (k + 1)).map (fun z => l.getD (z - 1).toNat []) = C ++ [l[m]]) := Lib.hid (by
            rw [List.take_succ_eq_append_getElem hlt, List.map_append, ← HC.out, hzz]
            simp only [List.map_cons, List.map_nil]
            rw [show ((m : Int) + 1 - 1).toNat = m by omega, HG.out])
          clear hcl
          have hcl : C.length ≤ 1000 := by rw [HC.out, List.length_map, List.length_take]; omega
          (repeat' (first | refine awp_block ?_ | ((first | refine awp_tk [] (by kernel_rfl) (fun K hK => ?_) | refine awp_dk [] mixed (by kernel_rfl) (by kernel_rfl) (fun K hK => ?_)); go_simp; (repeat (simp (disch := omega) only [dT, dF, nT, nF, wA, wB, wC, wD]; try go_simp)); (repeat (refine ⟨by (repeat' apply And.intro) <;> first | omega | trivial | assumption | decide, ?_⟩)); (first | (refine hK _ ?_; clear hK K) | (clear hK K; refine hK _ ?_; clear hK K) | (clear hK K; clear hK K; refine hK _ ?_; clear hK K) | (clear hK K; clear hK K; clear hK K; refine hK _ ?_; clear hK K))) | refine awp_ct rfl ?_ | refine awp_cf rfl ?_ | (first | (refine awp_skip (hK _ ?_); clear hK K) | (clear hK K; refine awp_skip (hK _ ?_); clear hK K) | (clear hK K; clear hK K; refine awp_skip (hK _ ?_); clear hK K) | (clear hK K; clear hK K; clear hK K; refine awp_skip (hK _ ?_); clear hK K)) | refine awp_seqk (fun K hK => ?_) | ((first | refine awp_t [] (by kernel_rfl) ?_ | refine awp_d [] mixed (by kernel_rfl) (by kernel_rfl) ?_); go_simp; (repeat (simp (disch := omega) only [dT, dF, nT, nF, wA, wB, wC, wD]; try go_simp)); (repeat (refine ⟨by (repeat' apply And.intro) <;> first | omega | trivial | assumption | decide, ?_⟩))) | (first | (refine hK _ ?_; clear hK K) | (clear hK K; refine hK _ ?_; clear hK K) | (clear hK K; clear hK K; refine hK _ ?_; clear hK K) | (clear hK K; clear hK K; clear hK K; refine hK _ ?_; clear hK K)) | (refine awp_exit ?_; simp only [thenA_exit, inBlk_exit, thenA_normal, inBlk_normal, ↓reduceIte, Nat.reduceEqDiff])))
          refine hR _ _ ?_ ⟨k + 1, C ++ [l[m]], by omega, HT.out.symm, rfl⟩ ?_
          · simp only [List.length_append, List.length_singleton, List.map_append, List.map_cons, List.map_nil, intsR]
            refine weak_w (by repeat' (first | exact trivial | exact Coe.refl _ | exact Coe.c CoeC.nil | apply And.intro)) (by repeat' (first | exact trivial | rfl | apply And.intro)) rfl rfl (by repeat' (first | exact trivial | (intro h; first | rfl | (exfalso; omega)) | apply And.intro))
          · simp [nat, sget]; omega
        · have HC2 : Hid (C = u.map fun z => l.getD (z - 1).toNat []) := Lib.hid (by rw [HC.out, List.take_of_length_le (by omega)])
          have hcu : C.length = u.length := by rw [HC2.out, List.length_map]
          have hCl : C.length ≤ 1000 := by omega
          have hCs : ∀ c ∈ C, Small c := fun c hc => by
            rw [HC2.out, List.mem_map] at hc
            obtain ⟨z, hz, rfl⟩ := hc
            have := P1.out z hz
            have hz2 : (z - 1).toNat < l.length := by omega
            rw [getD_lt hz2]
            exact D3.out _ (List.mem_append_left _ (List.getElem_mem hz2))
          have HCS := Lib.hid hCs
          have HCU := Lib.hid hcu
          have HCNT : Hid (countV C a = a.length) := Lib.hid (by rw [HC2.out]; exact P3.out)
          clear hcl hcu hCs HC
          (repeat' (first | refine awp_block ?_ | ((first | refine awp_tk [] (by kernel_rfl) (fun K hK => ?_) | refine awp_dk [] mixed (by kernel_rfl) (by kernel_rfl) (fun K hK => ?_)); go_simp; (repeat (simp (disch := omega) only [dT, dF, nT, nF, wA, wB, wC, wD]; try go_simp)); (repeat (refine ⟨by (repeat' apply And.intro) <;> first | omega | trivial | assumption | decide, ?_⟩)); (first | (refine hK _ ?_; clear hK K) | (clear hK K; refine hK _ ?_; clear hK K) | (clear hK K; clear hK K; refine hK _ ?_; clear hK K) | (clear hK K; clear hK K; clear hK K; refine hK _ ?_; clear hK K))) | refine awp_ct rfl ?_ | refine awp_cf rfl ?_ | (first | (refine awp_skip (hK _ ?_); clear hK K) | (clear hK K; refine awp_skip (hK _ ?_); clear hK K) | (clear hK K; clear hK K; refine awp_skip (hK _ ?_); clear hK K) | (clear hK K; clear hK K; clear hK K; refine awp_skip (hK _ ?_); clear hK K)) | refine awp_seqk (fun K hK => ?_) | ((first | refine awp_t [] (by kernel_rfl) ?_ | refine awp_d [] mixed (by kernel_rfl) (by kernel_rfl) ?_); go_simp; (repeat (simp (disch := omega) only [dT, dF, nT, nF, wA, wB, wC, wD]; try go_simp)); (repeat (refine ⟨by (repeat' apply And.intro) <;> first | omega | trivial | assumption | decide, ?_⟩))) | (refine awp_exit ?_; simp only [thenA_exit, inBlk_exit, thenA_normal, inBlk_normal, ↓reduceIte, Nat.reduceEqDiff])))
          (first | (refine hK _ ?_; clear hK K) | (clear hK K; refine hK _ ?_; clear hK K) | (clear hK K; clear hK K; refine hK _ ?_; clear hK K) | (clear hK K; clear hK K; clear hK K; refine hK _ ?_; clear hK K))
          refine awp_weak (weak_freeze 8 (by decide) rfl) ?_
          simp only [frzS, frzAV, frzC, frzH, frzO, List.map_cons, List.map_nil, List.length_map, ↓reduceIte, Nat.reduceEqDiff]
          have hcnt := HCNT.out
          have ha1 : a.length - 1 < a.length := by omega
          have hs1 : S.length - 1 < S.length := by omega
          have ia : ((a.length : Int) - 1).toNat = a.length - 1 := by omega
          have is : ((S.length : Int) - 1).toNat = S.length - 1 := by omega
          have GA := Lib.hid (getD_lt ha1 (default : StepD))
          have GS := Lib.hid (getD_lt hs1 (default : StepD))
          obtain ⟨xa, hxa⟩ : ∃ x, a[a.length - 1] = x := ⟨_, rfl⟩
          obtain ⟨xs, hxs⟩ : ∃ x, S[S.length - 1] = x := ⟨_, rfl⟩
          rw [hxa] at GA
          rw [hxs] at GS
          have HEQ : Hid (xa.cl = xs.cl) := Lib.hid (by rw [← GA.out, ← GS.out]; exact P4.out)
          have heq : decide (xa.cl = xs.cl) = true := decide_eq_true HEQ.out
          have hxl : xs.cl.length ≤ 1000 := by rw [← GS.out]; omega
          have hxal : xa.cl.length ≤ 1000 := by rw [HEQ.out]; exact hxl
          have TF2 := Lib.hid (trim_fx C.length a (by omega) (by omega) p2 (fun x hx => by have := (Q2.out x hx).2; omega) (fun x hx => (Q2.out x hx).1.2.1))
          obtain ⟨u2, hu2, hul2⟩ : ∃ u2, trimV C.length a = (a, u2) ∧ u2.length = C.length := by
            refine ⟨(trimV C.length a).2, ?_, ?_⟩
            · rw [HCU.out]
              have := P5.out
              exact Prod.ext this rfl
            · rw [HCU.out]; exact P6.out
          rw [hu2] at TF2
          clear hu2
          have hlens : ∀ x ∈ a, x.cl.length ≤ 1000000 ∧ x.fr.length ≤ 1000000 ∧ x.on.length ≤ 1000000 := fun x hx => by have := (Q2.out x hx).2; omega
          have HLENS := Lib.hid hlens
          clear hlens
          (repeat' (first | refine awp_block ?_ | ((first | refine awp_tk [] (by kernel_rfl) (fun K hK => ?_) | refine awp_dk [] mixed (by kernel_rfl) (by kernel_rfl) (fun K hK => ?_)); go_simp; (repeat (simp (disch := omega) only [dT, dF, nT, nF, wA, wB, wC, wD]; try go_simp)); (repeat (refine ⟨by (repeat' apply And.intro) <;> first | omega | trivial | assumption | decide, ?_⟩)); (first | (refine hK _ ?_; clear hK K) | (clear hK K; refine hK _ ?_; clear hK K) | (clear hK K; clear hK K; refine hK _ ?_; clear hK K) | (clear hK K; clear hK K; clear hK K; refine hK _ ?_; clear hK K))) | refine awp_ct rfl ?_ | refine awp_cf rfl ?_ | (first | (refine awp_skip (hK _ ?_); clear hK K) | (clear hK K; refine awp_skip (hK _ ?_); clear hK K) | (clear hK K; clear hK K; refine awp_skip (hK _ ?_); clear hK K) | (clear hK K; clear hK K; clear hK K; refine awp_skip (hK _ ?_); clear hK K)) | refine awp_seqk (fun K hK => ?_) | ((first | refine awp_t [] (by kernel_rfl) ?_ | refine awp_d [] mixed (by kernel_rfl) (by kernel_rfl) ?_); go_simp; (repeat (simp (disch := omega) only [dT, dF, nT, nF, wA, wB, wC, wD]; try go_simp)); (repeat (refine ⟨by (repeat' apply And.intro) <;> first | omega | trivial | assumption | decide, ?_⟩))) | (first | (refine hK _ ?_; clear hK K) | (clear hK K; refine hK _ ?_; clear hK K) | (clear hK K; clear hK K; refine hK _ ?_; clear hK K) | (clear hK K; clear hK K; clear hK K; refine hK _ ?_; clear hK K)) | (refine awp_exit ?_; simp only [thenA_exit, inBlk_exit, thenA_normal, inBlk_normal, ↓reduceIte, Nat.reduceEqDiff])))
          refine callV (of_fx a (by omega)) rfl ?_
          go_simp
          (repeat (simp (disch := omega) only [dT, dF, nT, nF, wA, wB, wC, wD]; try go_simp))
          (repeat (refine ⟨by (repeat' apply And.intro) <;> first | omega | trivial | assumption | decide, ?_⟩))
          refine callV (count_fx 16 C a (fun c hc => (HCS.out c hc).inB) (fun x hx => (Q2.out x hx).1) (by omega) (by omega) (by omega)) rfl ?_
          go_simp
          (repeat (simp (disch := omega) only [dT, dF, nT, nF, wA, wB, wC, wD]; try go_simp))
          (repeat (refine ⟨by (repeat' apply And.intro) <;> first | omega | trivial | assumption | decide, ?_⟩))
          refine callV (ints_fx xa.cl xs.cl (by omega) (by omega)) rfl ?_
          go_simp
          (repeat (simp (disch := omega) only [dT, dF, nT, nF, wA, wB, wC, wD]; try go_simp))
          (repeat (refine ⟨by (repeat' apply And.intro) <;> first | omega | trivial | assumption | decide, ?_⟩))
          (repeat' (first | refine awp_block ?_ | ((first | refine awp_tk [] (by kernel_rfl) (fun K hK => ?_) | refine awp_dk [] mixed (by kernel_rfl) (by kernel_rfl) (fun K hK => ?_)); go_simp; (repeat (simp (disch := omega) only [dT, dF, nT, nF, wA, wB, wC, wD]; try go_simp)); (repeat (refine ⟨by (repeat' apply And.intro) <;> first | omega | trivial | assumption | decide, ?_⟩)); (first | (refine hK _ ?_; clear hK K) | (clear hK K; refine hK _ ?_; clear hK K) | (clear hK K; clear hK K; refine hK _ ?_; clear hK K) | (clear hK K; clear hK K; clear hK K; refine hK _ ?_; clear hK K))) | refine awp_ct rfl ?_ | refine awp_cf rfl ?_ | (first | (refine awp_skip (hK _ ?_); clear hK K) | (clear hK K; refine awp_skip (hK _ ?_); clear hK K) | (clear hK K; clear hK K; refine awp_skip (hK _ ?_); clear hK K) | (clear hK K; clear hK K; clear hK K; refine awp_skip (hK _ ?_); clear hK K)) | refine awp_seqk (fun K hK => ?_) | ((first | refine awp_t [] (by kernel_rfl) ?_ | refine awp_d [] mixed (by kernel_rfl) (by kernel_rfl) ?_); go_simp; (repeat (simp (disch := omega) only [dT, dF, nT, nF, wA, wB, wC, wD]; try go_simp)); (repeat (refine ⟨by (repeat' apply And.intro) <;> first | omega | trivial | assumption | decide, ?_⟩))) | (first | (refine hK _ ?_; clear hK K) | (clear hK K; refine hK _ ?_; clear hK K) | (clear hK K; clear hK K; refine hK _ ?_; clear hK K) | (clear hK K; clear hK K; clear hK K; refine hK _ ?_; clear hK K)) | (refine awp_exit ?_; simp only [thenA_exit, inBlk_exit, thenA_normal, inBlk_normal, ↓reduceIte, Nat.reduceEqDiff])))
          refine callV (TF2.out) rfl ?_
          go_simp
          (repeat (simp (disch := omega) only [dT, dF, nT, nF, wA, wB, wC, wD]; try go_simp))
          (repeat (refine ⟨by (repeat' apply And.intro) <;> first | omega | trivial | assumption | decide, ?_⟩))
          (repeat' (first | refine awp_block ?_ | ((first | refine awp_tk [] (by kernel_rfl) (fun K hK => ?_) | refine awp_dk [] mixed (by kernel_rfl) (by kernel_rfl) (fun K hK => ?_)); go_simp; (repeat (simp (disch := omega) only [dT, dF, nT, nF, wA, wB, wC, wD]; try go_simp)); (repeat (refine ⟨by (repeat' apply And.intro) <;> first | omega | trivial | assumption | decide, ?_⟩)); (first | (refine hK _ ?_; clear hK K) | (clear hK K; refine hK _ ?_; clear hK K) | (clear hK K; clear hK K; refine hK _ ?_; clear hK K) | (clear hK K; clear hK K; clear hK K; refine hK _ ?_; clear hK K))) | refine awp_ct rfl ?_ | refine awp_cf rfl ?_ | (first | (refine awp_skip (hK _ ?_); clear hK K) | (clear hK K; refine awp_skip (hK _ ?_); clear hK K) | (clear hK K; clear hK K; refine awp_skip (hK _ ?_); clear hK K) | (clear hK K; clear hK K; clear hK K; refine awp_skip (hK _ ?_); clear hK K)) | refine awp_seqk (fun K hK => ?_) | ((first | refine awp_t [] (by kernel_rfl) ?_ | refine awp_d [] mixed (by kernel_rfl) (by kernel_rfl) ?_); go_simp; (repeat (simp (disch := omega) only [dT, dF, nT, nF, wA, wB, wC, wD]; try go_simp)); (repeat (refine ⟨by (repeat' apply And.intro) <;> first | omega | trivial | assumption | decide, ?_⟩))) | (first | (refine hK _ ?_; clear hK K) | (clear hK K; refine hK _ ?_; clear hK K) | (clear hK K; clear hK K; refine hK _ ?_; clear hK K) | (clear hK K; clear hK K; clear hK K; refine hK _ ?_; clear hK K)) | (refine awp_exit ?_; simp only [thenA_exit, inBlk_exit, thenA_normal, inBlk_normal, ↓reduceIte, Nat.reduceEqDiff])))
          refine callV (of_fx a (by omega)) rfl ?_
          go_simp
          (repeat (simp (disch := omega) only [dT, dF, nT, nF, wA, wB, wC, wD]; try go_simp))
          (repeat (refine ⟨by (repeat' apply And.intro) <;> first | omega | trivial | assumption | decide, ?_⟩))
          refine callV (of_fx a (by omega)) rfl ?_
          go_simp
          (repeat (simp (disch := omega) only [dT, dF, nT, nF, wA, wB, wC, wD]; try go_simp))
          (repeat (refine ⟨by (repeat' apply And.intro) <;> first | omega | trivial | assumption | decide, ?_⟩))
          refine callV (same_fx a a (by omega) (by omega) HLENS.out HLENS.out) rfl ?_
          go_simp
          (repeat (simp (disch := omega) only [dT, dF, nT, nF, wA, wB, wC, wD]; try go_simp))
          (repeat (refine ⟨by (repeat' apply And.intro) <;> first | omega | trivial | assumption | decide, ?_⟩))
          (repeat' (first | refine awp_block ?_ | ((first | refine awp_tk [] (by kernel_rfl) (fun K hK => ?_) | refine awp_dk [] mixed (by kernel_rfl) (by kernel_rfl) (fun K hK => ?_)); go_simp; (repeat (simp (disch := omega) only [dT, dF, nT, nF, wA, wB, wC, wD]; try go_simp)); (repeat (refine ⟨by (repeat' apply And.intro) <;> first | omega | trivial | assumption | decide, ?_⟩)); (first | (refine hK _ ?_; clear hK K) | (clear hK K; refine hK _ ?_; clear hK K) | (clear hK K; clear hK K; refine hK _ ?_; clear hK K) | (clear hK K; clear hK K; clear hK K; refine hK _ ?_; clear hK K))) | refine awp_ct rfl ?_ | refine awp_cf rfl ?_ | (first | (refine awp_skip (hK _ ?_); clear hK K) | (clear hK K; refine awp_skip (hK _ ?_); clear hK K) | (clear hK K; clear hK K; refine awp_skip (hK _ ?_); clear hK K) | (clear hK K; clear hK K; clear hK K; refine awp_skip (hK _ ?_); clear hK K)) | refine awp_seqk (fun K hK => ?_) | ((first | refine awp_t [] (by kernel_rfl) ?_ | refine awp_d [] mixed (by kernel_rfl) (by kernel_rfl) ?_); go_simp; (repeat (simp (disch := omega) only [dT, dF, nT, nF, wA, wB, wC, wD]; try go_simp)); (repeat (refine ⟨by (repeat' apply And.intro) <;> first | omega | trivial | assumption | decide, ?_⟩))) | (first | (refine hK _ ?_; clear hK K) | (clear hK K; refine hK _ ?_; clear hK K) | (clear hK K; clear hK K; refine hK _ ?_; clear hK K) | (clear hK K; clear hK K; clear hK K; refine hK _ ?_; clear hK K)) | (refine awp_exit ?_; simp only [thenA_exit, inBlk_exit, thenA_normal, inBlk_normal, ↓reduceIte, Nat.reduceEqDiff])))
          exact awp_ret ⟨_, (by repeat' (first | exact .nil | exact .tmp _ _ rfl | apply ResL.cons)), (by repeat' (first | exact Coe.refl _ | exact Coe.c CoeC.nil | exact Coe.c CoeC.z | exact .nil | apply Coe.tup | apply CoeA.cons)), rfl⟩
    · (repeat' (first | refine awp_block ?_ | ((first | refine awp_tk [] (by kernel_rfl) (fun K hK => ?_) | refine awp_dk [] mixed (by kernel_rfl) (by kernel_rfl) (fun K hK => ?_)); go_simp; (repeat (simp (disch := omega) only [dT, dF, nT, nF, wA, wB, wC, wD]; try go_simp)); (repeat (refine ⟨by (repeat' apply And.intro) <;> first | omega | trivial | assumption | decide, ?_⟩)); (first | (refine hK _ ?_; clear hK K) | (clear hK K; refine hK _ ?_; clear hK K) | (clear hK K; clear hK K; refine hK _ ?_; clear hK K) | (clear hK K; clear hK K; clear hK K; refine hK _ ?_; clear hK K))) | refine awp_ct rfl ?_ | refine awp_cf rfl ?_ | (first | (refine awp_skip (hK _ ?_); clear hK K) | (clear hK K; refine awp_skip (hK _ ?_); clear hK K) | (clear hK K; clear hK K; refine awp_skip (hK _ ?_); clear hK K) | (clear hK K; clear hK K; clear hK K; refine awp_skip (hK _ ?_); clear hK K)) | refine awp_seqk (fun K hK => ?_) | ((first | refine awp_t [] (by kernel_rfl) ?_ | refine awp_d [] mixed (by kernel_rfl) (by kernel_rfl) ?_); go_simp; (repeat (simp (disch := omega) only [dT, dF, nT, nF, wA, wB, wC, wD]; try go_simp)); (repeat (refine ⟨by (repeat' apply And.intro) <;> first | omega | trivial | assumption | decide, ?_⟩))) | (first | (refine hK _ ?_; clear hK K) | (clear hK K; refine hK _ ?_; clear hK K) | (clear hK K; clear hK K; refine hK _ ?_; clear hK K) | (clear hK K; clear hK K; clear hK K; refine hK _ ?_; clear hK K)) | (refine awp_exit ?_; simp only [thenA_exit, inBlk_exit, thenA_normal, inBlk_normal, ↓reduceIte, Nat.reduceEqDiff])))
      refine callV (checked_fx) rfl ?_
      go_simp
      (repeat (simp (disch := omega) only [dT, dF, nT, nF, wA, wB, wC, wD]; try go_simp))
      (repeat (refine ⟨by (repeat' apply And.intro) <;> first | omega | trivial | assumption | decide, ?_⟩))
      refine callC (few_fx l []) (by repeat' (first | exact .nil | exact Coe.refl _ | exact Coe.c CoeC.nil | exact Coe.c CoeC.z | apply CoeA.cons)) rfl ?_
      go_simp
      (repeat (simp (disch := omega) only [dT, dF, nT, nF, wA, wB, wC, wD]; try go_simp))
      (repeat (refine ⟨by (repeat' apply And.intro) <;> first | omega | trivial | assumption | decide, ?_⟩))
      refine callV (rcheck_fx 8 l (by omega) (by omega)) rfl ?_
      go_simp
      (repeat (simp (disch := omega) only [dT, dF, nT, nF, wA, wB, wC, wD]; try go_simp))
      (repeat (refine ⟨by (repeat' apply And.intro) <;> first | omega | trivial | assumption | decide, ?_⟩))
      (repeat' (first | refine awp_block ?_ | ((first | refine awp_tk [] (by kernel_rfl) (fun K hK => ?_) | refine awp_dk [] mixed (by kernel_rfl) (by kernel_rfl) (fun K hK => ?_)); go_simp; (repeat (simp (disch := omega) only [dT, dF, nT, nF, wA, wB, wC, wD]; try go_simp)); (repeat (refine ⟨by (repeat' apply And.intro) <;> first | omega | trivial | assumption | decide, ?_⟩)); (first | (refine hK _ ?_; clear hK K) | (clear hK K; refine hK _ ?_; clear hK K) | (clear hK K; clear hK K; refine hK _ ?_; clear hK K) | (clear hK K; clear hK K; clear hK K; refine hK _ ?_; clear hK K))) | refine awp_ct rfl ?_ | refine awp_cf rfl ?_ | (first | (refine awp_skip (hK _ ?_); clear hK K) | (clear hK K; refine awp_skip (hK _ ?_); clear hK K) | (clear hK K; clear hK K; refine awp_skip (hK _ ?_); clear hK K) | (clear hK K; clear hK K; clear hK K; refine awp_skip (hK _ ?_); clear hK K)) | refine awp_seqk (fun K hK => ?_) | ((first | refine awp_t [] (by kernel_rfl) ?_ | refine awp_d [] mixed (by kernel_rfl) (by kernel_rfl) ?_); go_simp; (repeat (simp (disch := omega) only [dT, dF, nT, nF, wA, wB, wC, wD]; try go_simp)); (repeat (refine ⟨by (repeat' apply And.intro) <;> first | omega | trivial | assumption | decide, ?_⟩))) | (first | (refine hK _ ?_; clear hK K) | (clear hK K; refine hK _ ?_; clear hK K) | (clear hK K; clear hK K; refine hK _ ?_; clear hK K) | (clear hK K; clear hK K; clear hK K; refine hK _ ?_; clear hK K)) | (refine awp_exit ?_; simp only [thenA_exit, inBlk_exit, thenA_normal, inBlk_normal, ↓reduceIte, Nat.reduceEqDiff])))
      refine callV (checked_fx) rfl ?_
      go_simp
      (repeat (simp (disch := omega) only [dT, dF, nT, nF, wA, wB, wC, wD]; try go_simp))
      (repeat (refine ⟨by (repeat' apply And.intro) <;> first | omega | trivial | assumption | decide, ?_⟩))
      (repeat' (first | refine awp_block ?_ | ((first | refine awp_tk [] (by kernel_rfl) (fun K hK => ?_) | refine awp_dk [] mixed (by kernel_rfl) (by kernel_rfl) (fun K hK => ?_)); go_simp; (repeat (simp (disch := omega) only [dT, dF, nT, nF, wA, wB, wC, wD]; try go_simp)); (repeat (refine ⟨by (repeat' apply And.intro) <;> first | omega | trivial | assumption | decide, ?_⟩)); (first | (refine hK _ ?_; clear hK K) | (clear hK K; refine hK _ ?_; clear hK K) | (clear hK K; clear hK K; refine hK _ ?_; clear hK K) | (clear hK K; clear hK K; clear hK K; refine hK _ ?_; clear hK K))) | refine awp_ct rfl ?_ | refine awp_cf rfl ?_ | (first | (refine awp_skip (hK _ ?_); clear hK K) | (clear hK K; refine awp_skip (hK _ ?_); clear hK K) | (clear hK K; clear hK K; refine awp_skip (hK _ ?_); clear hK K) | (clear hK K; clear hK K; clear hK K; refine awp_skip (hK _ ?_); clear hK K)) | refine awp_seqk (fun K hK => ?_) | ((first | refine awp_t [] (by kernel_rfl) ?_ | refine awp_d [] mixed (by kernel_rfl) (by kernel_rfl) ?_); go_simp; (repeat (simp (disch := omega) only [dT, dF, nT, nF, wA, wB, wC, wD]; try go_simp)); (repeat (refine ⟨by (repeat' apply And.intro) <;> first | omega | trivial | assumption | decide, ?_⟩))) | (first | (refine hK _ ?_; clear hK K) | (clear hK K; refine hK _ ?_; clear hK K) | (clear hK K; clear hK K; refine hK _ ?_; clear hK K) | (clear hK K; clear hK K; clear hK K; refine hK _ ?_; clear hK K)) | (refine awp_exit ?_; simp only [thenA_exit, inBlk_exit, thenA_normal, inBlk_normal, ↓reduceIte, Nat.reduceEqDiff])))
      exact awp_ret ⟨_, (by repeat' (first | exact .nil | exact .tmp _ _ rfl | apply ResL.cons)), (by repeat' (first | exact Coe.refl _ | exact Coe.c CoeC.nil | exact Coe.c CoeC.z | exact .nil | apply Coe.tup | apply CoeA.cons)), rfl⟩
end Go.Proofs.Ytiimkhnngpfnbaa.Fx
