/- Parts of the proofs, put together: CnC, CnD, CnE, CnL, CnF, CnN. -/
import Derived.Test.YtiimkhnngpfnbaaR6
import Derived.Conc.MuLone
/- Literals in models; slices.Index, IndexFunc, Contains, ContainsFunc at ints and at slices of ints. -/
namespace Go.Proofs.Ytiimkhnngpfnbaa
open Go.RowKit
set_option linter.unusedVariables false
def varI (x : Int) : Int := (x.natAbs : Int)
theorem rvar_any (x : Int) (w : World) (h1 : -9223372036854775807 ≤ x) (h2 : x ≤ 9223372036854775807) :
    Calls Try.prog 48 #[.int .i64 x] w fun e w' => e = .returned (.int .i64 (varI x)) ∧ w = w' := by
  by_cases h0 : x < 0
  · have hv : Hid (-x = varI x) := Lib.hid (by unfold varI; omega)
    go_enter Try.func48, Try.ntmps48
    go_wp2_with fail
    go_ret
    exact ⟨ret_int hv.out, rfl⟩
  · have hv : Hid (x = varI x) := Lib.hid (by unfold varI; omega)
    go_enter Try.func48, Try.ntmps48
    go_wp2_with fail
    go_ret
    exact ⟨ret_int hv.out, rfl⟩
/-- is a literal true in a model? -/
def trueB (M : List Bool) (x : Int) : Bool := (decide (x.natAbs ≤ M.length) && M.getD (x.natAbs - 1) false) == decide (0 < x)
end Go.Proofs.Ytiimkhnngpfnbaa
/- The reference's True; slices.Index, Contains, IndexFunc, ContainsFunc; the reference's Has. -/
namespace Go.Proofs.Ytiimkhnngpfnbaa
open Go.RowKit
set_option linter.unusedVariables false
/-- what a search comes to -/
def IdxPost (b : Bool) (e : Ending) : Prop := (b = false ∧ e = .returned (.int .i64 (-1))) ∨ (b = true ∧ ∃ k : Nat, e = .returned (.int .i64 k))
/-- is a number in a list? -/
def hasB (c : List Int) (x : Int) : Bool := c.any fun y => y == x
set_option maxHeartbeats 800000 in
theorem index_any (a : Option Addr) (cap : Nat) (c : List Int) (x : Int) (w : World) (h : ValRow w (.slice a c.length cap) (intVals c)) :
    Calls Try.prog 44 #[.slice a c.length cap, .int .i64 x] w fun e w' => IdxPost (hasB c x) e ∧ w = w' := by
  have hl := h.len
  rw [intVals_length] at hl
  unfold maxLen at hl
  have H := Lib.hid h
  clear h
  go_enter Try.func44, Try.ntmps44
  go_wp2_with fail
  go_loop [8] (fun i => ∃ k : Nat, i = .int .i64 k ∧ k ≤ c.length ∧ hasB (c.take k) x = false) (fun i => c.length - (intOf i).toNat)
  case atStart => exact ⟨0, rfl, Nat.zero_le _, rfl⟩
  case round =>
    obtain ⟨k, rfl, hk, hok⟩ := hrel
    have HOK := Lib.hid hok
    clear hok
    have k0 : (0 : Int) ≤ (k : Int) := by omega
    by_cases hlt : k < c.length
    · have k1 : (k : Int) < (c.length : Int) := by omega
      have hdk : decide (k < c.length) = true := decide_eq_true hlt
      obtain ⟨b, off, rfl, _, hc⟩ := int_at H.out k hlt
      have e : c.getD k 0 = c[k] := by simp [hlt]
      have HTK := Lib.hid (List.take_succ_eq_append_getElem hlt)
      have HMEM := List.getElem_mem hlt
      rw [← e] at HTK HMEM
      have HM := Lib.hid HMEM
      clear e HMEM
      obtain ⟨y, hy⟩ : ∃ y, c.getD k 0 = y := ⟨_, rfl⟩
      rw [hy] at hc HTK HM
      clear hy
      by_cases hxy : x = y
      · have HANY : Hid (hasB c x = true) := Lib.hid (List.any_eq_true.2 ⟨y, HM.out, by simp [hxy]⟩)
        have d1 := iet hxy
        clear hxy
        go_wp2_with fail
        go_ret
        exact ⟨.inr ⟨HANY.out, k, rfl⟩, rfl⟩
      · have HNX : Hid (hasB (c.take (k + 1)) x = false) := Lib.hid (by
          have h1 := HOK.out
          unfold hasB at h1 ⊢
          rw [HTK.out, List.any_append, h1]
          simp; omega)
        have d1 := ief hxy
        clear hxy
        go_wp2_with fail
        go_round
        case rel => exact ⟨k + 1, by go_num, by omega, HNX.out⟩
        case measure => simp [intOf]; omega
    · have hdk : decide (k < c.length) = false := decide_eq_false hlt
      have HANY : Hid (hasB c x = false) := Lib.hid (by have := HOK.out; rwa [List.take_of_length_le (by omega)] at this)
      have HLT := Lib.hid hlt
      clear hlt
      go_wp2_with fail
      go_ret
      exact ⟨.inl ⟨HANY.out, rfl⟩, rfl⟩
theorem contains_any (a : Option Addr) (cap : Nat) (c : List Int) (x : Int) (w : World) (h : ValRow w (.slice a c.length cap) (intVals c)) (v : Bool) (hv : Hid (hasB c x = v)) :
    Calls Try.prog 34 #[.slice a c.length cap, .int .i64 x] w fun e w' => e = .returned (.bool v) ∧ w = w' := by
  have HC := Lib.hid (index_any a cap c x w h)
  clear h
  go_enter Try.func34, Try.ntmps34
  go_wp2_with fail
  refine HC.out.mono ?_
  rintro e w1 ⟨⟨hn, rfl⟩ | ⟨hn, k, rfl⟩, rfl⟩
  · have HV : Hid (false = v) := Lib.hid (by rw [← hv.out, hn])
    clear hn
    go_wp2_with fail
    go_ret
    exact ⟨ret_bool HV.out, rfl⟩
  · have HV : Hid (true = v) := Lib.hid (by rw [← hv.out, hn])
    have k0 : decide ((0 : Int) ≤ (k : Int)) = true := decide_eq_true (by omega)
    clear hn
    go_wp2_with fail
    go_ret
    exact ⟨ret_bool (by simpa using HV.out), rfl⟩
set_option maxHeartbeats 800000 in
theorem has_any (a : Option Addr) (cap : Nat) (c : List Int) (x : Int) (w : World) (h : ValRow w (.slice a c.length cap) (intVals c)) (v : Bool) (hv : Hid (hasB c x = v)) :
    Calls Try.prog 36 #[.slice a c.length cap, .int .i64 x] w fun e w' => e = .returned (.bool v) ∧ w = w' := by
  have hl := h.len
  rw [intVals_length] at hl
  unfold maxLen at hl
  have H := Lib.hid h
  clear h
  go_enter Try.func36, Try.ntmps36
  go_wp2_with fail
  go_loop [5] (fun i => ∃ k : Nat, i = .int .i64 k ∧ k ≤ c.length ∧ hasB (c.take k) x = false) (fun i => c.length - (intOf i).toNat)
  case atStart => exact ⟨0, rfl, Nat.zero_le _, rfl⟩
  case round =>
    obtain ⟨k, rfl, hk, hok⟩ := hrel
    have HOK := Lib.hid hok
    clear hok
    have k0 : (0 : Int) ≤ (k : Int) := by omega
    by_cases hlt : k < c.length
    · have k1 : (k : Int) < (c.length : Int) := by omega
      have hdk : decide (k < c.length) = true := decide_eq_true hlt
      obtain ⟨b, off, rfl, _, hc⟩ := int_at H.out k hlt
      have e : c.getD k 0 = c[k] := by simp [hlt]
      have HTK := Lib.hid (List.take_succ_eq_append_getElem hlt)
      have HMEM := List.getElem_mem hlt
      rw [← e] at HTK HMEM
      have HM := Lib.hid HMEM
      clear e HMEM
      obtain ⟨y, hy⟩ : ∃ y, c.getD k 0 = y := ⟨_, rfl⟩
      rw [hy] at hc HTK HM
      clear hy
      by_cases hxy : y = x
      · have HANY : Hid (hasB c x = true) := Lib.hid (List.any_eq_true.2 ⟨y, HM.out, by simp [hxy]⟩)
        have d1 := iet hxy
        clear hxy
        go_wp2_with fail
        go_ret
        exact ⟨ret_bool (by rw [← hv.out, HANY.out]), rfl⟩
      · have HNX : Hid (hasB (c.take (k + 1)) x = false) := Lib.hid (by
          have h1 := HOK.out
          unfold hasB at h1 ⊢
          rw [HTK.out, List.any_append, h1]
          simp; omega)
        have d1 := ief hxy
        clear hxy
        go_wp2_with fail
        go_round
        case rel => exact ⟨k + 1, by go_num, by omega, HNX.out⟩
        case measure => simp [intOf]; omega
    · have hdk : decide (k < c.length) = false := decide_eq_false hlt
      have HANY : Hid (hasB c x = false) := Lib.hid (by have := HOK.out; rwa [List.take_of_length_le (by omega)] at this)
      have HLT := Lib.hid hlt
      clear hlt
      go_wp2_with fail
      go_ret
      exact ⟨ret_bool (by rw [← hv.out, HANY.out]), rfl⟩
set_option maxHeartbeats 800000 in
theorem idxF_any (p : Int → Bool) (N : FuncId) (caps : Array Value) (a : Option Addr) (cap : Nat) (c : List Int) (w : World) (h : ValRow w (.slice a c.length cap) (intVals c))
    (hent : ∀ (args : Array Value) (w : World), (callFunc N args).run Try.prog w = .ok (.enter N args) w) (hf : ∀ x ∈ c, Calls Try.prog N (#[.int .i64 x] ++ caps) w fun e w' => e = .returned (.bool (p x)) ∧ w = w') :
    Calls Try.prog 69 #[.slice a c.length cap, .func (.func N) #[] caps] w fun e w' => IdxPost (c.any p) e ∧ w = w' := by
  have hl := h.len
  rw [intVals_length] at hl
  unfold maxLen at hl
  have H := Lib.hid h
  have HFN := Lib.hid hf
  clear h hf
  go_enter Try.func69, Try.ntmps69
  go_wp2_with fail
  go_loop [8] (fun i => ∃ k : Nat, i = .int .i64 k ∧ k ≤ c.length ∧ (c.take k).any p = false) (fun i => c.length - (intOf i).toNat)
  case atStart => exact ⟨0, rfl, Nat.zero_le _, rfl⟩
  case round =>
    obtain ⟨k, rfl, hk, hok⟩ := hrel
    have HOK := Lib.hid hok
    clear hok
    have k0 : (0 : Int) ≤ (k : Int) := by omega
    by_cases hlt : k < c.length
    · have k1 : (k : Int) < (c.length : Int) := by omega
      have hdk : decide (k < c.length) = true := decide_eq_true hlt
      obtain ⟨b, off, rfl, _, hc⟩ := int_at H.out k hlt
      have e : c.getD k 0 = c[k] := by simp [hlt]
      have HTK := Lib.hid (List.take_succ_eq_append_getElem hlt)
      have HMEM := List.getElem_mem hlt
      have HF := Lib.hid (HFN.out c[k] HMEM)
      rw [← e] at HTK HMEM HF
      have HM := Lib.hid HMEM
      clear e HMEM
      obtain ⟨x, hx⟩ : ∃ x, c.getD k 0 = x := ⟨_, rfl⟩
      rw [hx] at hc HTK HF HM
      clear hx
      obtain ⟨v, hv⟩ : ∃ v, p x = v := ⟨_, rfl⟩
      rw [hv] at HF
      have HV := Lib.hid hv
      clear hv
      go_wp2_with fail
      refine (HF.out).mono ?_
      rintro e w1 ⟨rfl, rfl⟩
      cases v with
      | true =>
        have HANY : Hid (c.any p = true) := Lib.hid (List.any_eq_true.2 ⟨x, HM.out, HV.out⟩)
        go_wp2_with fail
        go_ret
        exact ⟨.inr ⟨HANY.out, k, rfl⟩, rfl⟩
      | false =>
        have HNX : Hid ((c.take (k + 1)).any p = false) := Lib.hid (by rw [HTK.out, List.any_append, HOK.out]; simp [HV.out])
        go_wp2_with fail
        go_round
        case rel => exact ⟨k + 1, by go_num, by omega, HNX.out⟩
        case measure => simp [intOf]; omega
    · have hdk : decide (k < c.length) = false := decide_eq_false hlt
      have HANY : Hid (c.any p = false) := Lib.hid (by have := HOK.out; rwa [List.take_of_length_le (by omega)] at this)
      have HLT := Lib.hid hlt
      clear hlt
      go_wp2_with fail
      go_ret
      exact ⟨.inl ⟨HANY.out, rfl⟩, rfl⟩
theorem contF_any (p : Int → Bool) (N : FuncId) (caps : Array Value) (a : Option Addr) (cap : Nat) (c : List Int) (w : World) (h : ValRow w (.slice a c.length cap) (intVals c))
    (hent : ∀ (args : Array Value) (w : World), (callFunc N args).run Try.prog w = .ok (.enter N args) w) (hf : ∀ x ∈ c, Calls Try.prog N (#[.int .i64 x] ++ caps) w fun e w' => e = .returned (.bool (p x)) ∧ w = w') (v : Bool) (hv : Hid (c.any p = v)) :
    Calls Try.prog 56 #[.slice a c.length cap, .func (.func N) #[] caps] w fun e w' => e = .returned (.bool v) ∧ w = w' := by
  have HC := Lib.hid (idxF_any p N caps a cap c w h hent hf)
  clear h hf hent
  go_enter Try.func56, Try.ntmps56
  go_wp2_with fail
  refine HC.out.mono ?_
  rintro e w1 ⟨⟨hn, rfl⟩ | ⟨hn, k, rfl⟩, rfl⟩
  · have HV : Hid (false = v) := Lib.hid (by rw [← hv.out, hn])
    clear hn
    go_wp2_with fail
    go_ret
    exact ⟨ret_bool HV.out, rfl⟩
  · have HV : Hid (true = v) := Lib.hid (by rw [← hv.out, hn])
    have k0 : decide ((0 : Int) ≤ (k : Int)) = true := decide_eq_true (by omega)
    clear hn
    go_wp2_with fail
    go_ret
    exact ⟨ret_bool (by simpa using HV.out), rfl⟩
end Go.Proofs.Ytiimkhnngpfnbaa
/- Holds, Taut, Subsumes: the program's, and the reference's. -/
namespace Go.Proofs.Ytiimkhnngpfnbaa
open Go.RowKit
set_option linter.unusedVariables false
/-- numbers that are no more than a million, up or down, and not 0 -/
def Lits (c : List Int) : Prop := ∀ x ∈ c, x ≠ 0 ∧ -1000000 ≤ x ∧ x ≤ 1000000
def tautB (c : List Int) : Bool := c.any fun x => hasB c (-x)
theorem ent_taut (args : Array Value) (w : World) : (callFunc 57 args).run Try.prog w = .ok (.enter 57 args) w :=
  Go.MuLone.run_callFunc_enter Try.func57 (by kernel_rfl) rfl args w
theorem taut1_any (b : Nat) (x : Int) (a : Option Addr) (cap : Nat) (c : List Int) (w : World) (hb : w.cell? ⟨b, 0, none⟩ = some (.slice a c.length cap)) (h : ValRow w (.slice a c.length cap) (intVals c)) (h1 : -1000000 ≤ x) (h2 : x ≤ 1000000) :
    Calls Try.prog 57 #[.int .i64 x, .pointer (some ⟨b, 0, none⟩)] w fun e w' => e = .returned (.bool (hasB c (-x))) ∧ w = w' := by
  obtain ⟨v, hv⟩ : ∃ v, hasB c (-x) = v := ⟨_, rfl⟩
  have HC := Lib.hid (contains_any a cap c (-x) w h v (Lib.hid hv))
  rw [hv]
  clear h hv
  go_enter Try.func57, Try.ntmps57
  go_wp2_with fail
  refine HC.out.mono ?_
  rintro e w1 ⟨rfl, rfl⟩
  go_wp2_with fail
  go_ret
  exact ⟨rfl, rfl⟩
theorem taut_any (a : Option Addr) (cap : Nat) (c : List Int) (w : World) (h : ValRow w (.slice a c.length cap) (intVals c)) (hl : Lits c) (v : Bool) (hv : Hid (tautB c = v)) :
    Calls Try.prog 47 #[.slice a c.length cap] w fun e w' => e = .returned (.bool v) ∧ Below w.heap.size w w' := by
  have hmf : ∀ (fn : Fn) (first cap : Array Value) (w : World), (Instr.makeFunc fn first cap).run Try.prog w = .ok (.func fn first cap) w := fun _ _ _ _ => rfl
  have hb2 : Below w.heap.size w (w.alloc (.cells #[.slice a c.length cap] 27)) := (Below.refl _ _).alloc (Nat.le_refl _) _
  have hm1 : (w.alloc (.cells #[.slice a c.length cap] 27)).cell? ⟨w.heap.size, 0, none⟩ = some (.slice a c.length cap) := (varAt_new w #[.slice a c.length cap] 27 _ rfl).get 0 rfl
  have HB2 := Lib.hid hb2
  have HC := Lib.hid (contF_any (fun x => hasB c (-x)) 57 #[.pointer (some ⟨w.heap.size, 0, none⟩)] a cap c _ (h.below hb2) ent_taut (fun x hx => taut1_any w.heap.size x a cap c _ hm1 (h.below hb2) (hl x hx).2.1 (hl x hx).2.2) v hv)
  clear h hv hl hb2 hm1
  go_enter Try.func47, Try.ntmps47
  go_wp2_with fail
  refine HC.out.mono ?_
  rintro e w1 ⟨rfl, rfl⟩
  go_wp2_with fail
  go_ret
  exact ⟨rfl, HB2.out⟩
end Go.Proofs.Ytiimkhnngpfnbaa
/- The order of literals, sorted lists without doubles: plain. -/
namespace Go.Proofs.Ytiimkhnngpfnbaa
open Go.RowKit
set_option linter.unusedVariables false
/-- does a literal stand ahead of another one? -/
def befI (a b : Int) : Prop := varI a < varI b ∨ (varI a = varI b ∧ a < b)
instance (a b : Int) : Decidable (befI a b) := by unfold befI; infer_instance
theorem bef_irrefl (a : Int) : ¬ befI a a := by unfold befI; omega
theorem bef_trans {a b c : Int} (h1 : befI a b) (h2 : befI b c) : befI a c := by unfold befI at *; omega
theorem bef_total {a b : Int} (h1 : ¬ befI a b) (h2 : ¬ befI b a) : a = b := by unfold befI at *; omega
theorem bef_asymm {a b : Int} (h1 : befI a b) : ¬ befI b a := by unfold befI at *; omega
/-- in order, each once -/
def Sorted (l : List Int) : Prop := l.Pairwise befI
theorem sorted_ext : ∀ (l1 l2 : List Int), Sorted l1 → Sorted l2 → (∀ x, x ∈ l1 ↔ x ∈ l2) → l1 = l2 := by
  intro l1
  induction l1 with
  | nil =>
    intro l2 _ _ h
    cases l2 with
    | nil => rfl
    | cons y t => exact absurd ((h y).2 (by simp)) (by simp)
  | cons x s ih =>
    intro l2 h1 h2 h
    cases l2 with
    | nil => exact absurd ((h x).1 (by simp)) (by simp)
    | cons y t =>
      unfold Sorted at h1 h2
      rw [List.pairwise_cons] at h1 h2
      have hxy : x = y := by
        have a1 := (h x).1 (by simp)
        have a2 := (h y).2 (by simp)
        simp only [List.mem_cons] at a1 a2
        rcases a1 with a1 | a1
        · exact a1
        · rcases a2 with a2 | a2
          · exact a2.symm
          · exact absurd (h1.1 y a2) (bef_asymm (h2.1 x a1))
      subst hxy
      congr 1
      refine ih t h1.2 h2.2 (fun z => ⟨fun hz => ?_, fun hz => ?_⟩)
      · have := (h z).1 (by simp [hz])
        simp only [List.mem_cons] at this
        rcases this with rfl | h3
        · exact absurd (h1.1 z hz) (bef_irrefl z)
        · exact h3
      · have := (h z).2 (by simp [hz])
        simp only [List.mem_cons] at this
        rcases this with rfl | h3
        · exact absurd (h2.1 z hz) (bef_irrefl z)
        · exact h3
end Go.Proofs.Ytiimkhnngpfnbaa
/- The reference's Taut and Holds. -/
namespace Go.Proofs.Ytiimkhnngpfnbaa
open Go.RowKit
set_option linter.unusedVariables false
set_option maxHeartbeats 800000 in
theorem rtaut_any (a : Option Addr) (cap : Nat) (c : List Int) (w : World) (h : ValRow w (.slice a c.length cap) (intVals c)) (hlit : Lits c) (v : Bool) (hv : Hid (tautB c = v)) :
    Calls Try.prog 37 #[.slice a c.length cap] w fun e w' => e = .returned (.bool v) ∧ w = w' := by
  have hl := h.len
  rw [intVals_length] at hl
  unfold maxLen at hl
  have H := Lib.hid h
  have HLIT := Lib.hid hlit
  clear h hlit
  go_enter Try.func37, Try.ntmps37
  go_wp2_with fail
  go_loop [3] (fun i => ∃ k : Nat, i = .int .i64 k ∧ k ≤ c.length ∧ ((c.take k).any fun x => hasB c (-x)) = false) (fun i => c.length - (intOf i).toNat)
  case atStart => exact ⟨0, rfl, Nat.zero_le _, rfl⟩
  case round =>
    obtain ⟨k, rfl, hk, hok⟩ := hrel
    have HOK := Lib.hid hok
    clear hok
    have k0 : (0 : Int) ≤ (k : Int) := by omega
    by_cases hlt : k < c.length
    · have k1 : (k : Int) < (c.length : Int) := by omega
      have hdk : decide (k < c.length) = true := decide_eq_true hlt
      obtain ⟨b, off, rfl, _, hc⟩ := int_at H.out k hlt
      have e : c.getD k 0 = c[k] := by simp [hlt]
      have HTK := Lib.hid (List.take_succ_eq_append_getElem hlt)
      have HMEM := List.getElem_mem hlt
      rw [← e] at HTK HMEM
      have HM := Lib.hid HMEM
      clear e HMEM
      obtain ⟨x, hx⟩ : ∃ x, c.getD k 0 = x := ⟨_, rfl⟩
      rw [hx] at hc HTK HM
      clear hx
      have hx1 := (HLIT.out x HM.out).2.1
      have hx2 := (HLIT.out x HM.out).2.2
      obtain ⟨u, hu⟩ : ∃ u, hasB c (-x) = u := ⟨_, rfl⟩
      have HU := Lib.hid hu
      clear hu
      go_wp2_with fail
      refine (has_any _ cap c (-x) _ H.out u HU).mono ?_
      rintro e w1 ⟨rfl, rfl⟩
      cases u with
      | true =>
        have HANY : Hid (v = true) := Lib.hid (by rw [← hv.out]; exact List.any_eq_true.2 ⟨x, HM.out, HU.out⟩)
        go_wp2_with fail
        go_ret
        exact ⟨ret_bool HANY.out.symm, rfl⟩
      | false =>
        have HNX : Hid (((c.take (k + 1)).any fun x => hasB c (-x)) = false) := Lib.hid (by rw [HTK.out, List.any_append, HOK.out]; simp [HU.out])
        go_wp2_with fail
        go_round
        case rel => exact ⟨k + 1, by go_num, by omega, HNX.out⟩
        case measure => simp [intOf]; omega
    · have hdk : decide (k < c.length) = false := decide_eq_false hlt
      have HANY : Hid (v = false) := Lib.hid (by rw [← hv.out]; have := HOK.out; rwa [List.take_of_length_le (by omega)] at this)
      have HLT := Lib.hid hlt
      clear hlt
      go_wp2_with fail
      go_ret
      exact ⟨ret_bool HANY.out.symm, rfl⟩
end Go.Proofs.Ytiimkhnngpfnbaa
/- The program's order of literals, at whatever two numbers. -/
namespace Go.Proofs.Ytiimkhnngpfnbaa
open Go.RowKit
set_option linter.unusedVariables false
theorem isNaN_any (x : Int) (w : World) : Calls Try.prog 68 #[.int .i64 x] w fun e w' => e = .returned (.bool false) ∧ w = w' := by
  have hxx : (x != x) = false := by simp
  go_enter Try.func68, Try.ntmps68
  go_wp2_with fail
  go_ret
  exact ⟨rfl, rfl⟩
def cmpI (a b : Int) : Int := if a < b then -1 else if b < a then 1 else 0
theorem compare_any (a b : Int) (w : World) (v : Int) (hv : Hid (cmpI a b = v)) : Calls Try.prog 51 #[.int .i64 a, .int .i64 b] w fun e w' => e = .returned (.int .i64 v) ∧ w = w' := by
  by_cases h1 : a < b
  · have d1 : decide (a < b) = true := decide_eq_true h1
    obtain rfl : -1 = v := by rw [← hv.out]; unfold cmpI; rw [if_pos h1]
    go_enter Try.func51, Try.ntmps51
    go_wp2_with fail
    refine (isNaN_any a _).mono ?_
    rintro e w1 ⟨rfl, rfl⟩
    go_wp2_with fail
    refine (isNaN_any b _).mono ?_
    rintro e w1 ⟨rfl, rfl⟩
    go_wp2_with fail
    go_ret
    exact ⟨rfl, rfl⟩
  · have d1 : decide (a < b) = false := decide_eq_false h1
    by_cases h2 : b < a
    · have d2 : decide (b < a) = true := decide_eq_true h2
      obtain rfl : 1 = v := by rw [← hv.out]; unfold cmpI; rw [if_neg h1, if_pos h2]
      go_enter Try.func51, Try.ntmps51
      go_wp2_with fail
      refine (isNaN_any a _).mono ?_
      rintro e w1 ⟨rfl, rfl⟩
      go_wp2_with fail
      refine (isNaN_any b _).mono ?_
      rintro e w1 ⟨rfl, rfl⟩
      go_wp2_with fail
      go_ret
      exact ⟨rfl, rfl⟩
    · have d2 : decide (b < a) = false := decide_eq_false h2
      obtain rfl : 0 = v := by rw [← hv.out]; unfold cmpI; rw [if_neg h1, if_neg h2]
      go_enter Try.func51, Try.ntmps51
      go_wp2_with fail
      refine (isNaN_any a _).mono ?_
      rintro e w1 ⟨rfl, rfl⟩
      go_wp2_with fail
      refine (isNaN_any b _).mono ?_
      rintro e w1 ⟨rfl, rfl⟩
      go_wp2_with fail
      go_ret
      exact ⟨rfl, rfl⟩
/-- Var, whatever the number -/
def varW (x : Int) : Int := if x < IntKind.i64.wrap (-x) then IntKind.i64.wrap (-x) else x
theorem varW_any (x : Int) (w : World) : Calls Try.prog 52 #[.int .i64 x] w fun e w' => e = .returned (.int .i64 (varW x)) ∧ w = w' := by
  obtain ⟨y, hy⟩ : ∃ y, IntKind.i64.wrap (-x) = y := ⟨_, rfl⟩
  by_cases h0 : x < y
  · have hd : decide (x < y) = true := decide_eq_true h0
    have hv : Hid (y = varW x) := Lib.hid (by unfold varW; rw [hy, if_pos h0])
    go_enter Try.func52, Try.ntmps52
    go_wp2_with fail
    go_ret
    exact ⟨ret_int hv.out, rfl⟩
  · have hd : decide (x < y) = false := decide_eq_false h0
    have hv : Hid (x = varW x) := Lib.hid (by unfold varW; rw [hy, if_neg h0])
    go_enter Try.func52, Try.ntmps52
    go_wp2_with fail
    go_ret
    exact ⟨ret_int hv.out, rfl⟩
/-- the order as a number, whatever the two -/
def cfW (a b : Int) : Int := if cmpI (varW a) (varW b) = 0 then cmpI a b else cmpI (varW a) (varW b)
theorem order_any (a b : Int) (w : World) : Calls Try.prog 41 #[.int .i64 a, .int .i64 b] w fun e w' => e = .returned (.int .i64 (cfW a b)) ∧ w = w' := by
  obtain ⟨va, hva⟩ : ∃ y, varW a = y := ⟨_, rfl⟩
  obtain ⟨vb, hvb⟩ : ∃ y, varW b = y := ⟨_, rfl⟩
  have HA := Lib.hid hva
  have HB := Lib.hid hvb
  obtain ⟨c, hc⟩ : ∃ y, cmpI va vb = y := ⟨_, rfl⟩
  obtain ⟨d, hd⟩ : ∃ y, cmpI a b = y := ⟨_, rfl⟩
  have HC := Lib.hid hc
  have HD := Lib.hid hd
  by_cases h0 : c = 0
  · have hv : Hid (d = cfW a b) := Lib.hid (by unfold cfW; rw [hva, hvb, hc, if_pos h0, hd])
    subst h0
    clear hva hvb hc hd
    go_enter Try.func41, Try.ntmps41
    go_wp2_with fail
    refine (varW_any a _).mono ?_
    rintro e w1 ⟨rfl, rfl⟩
    rw [HA.out]
    go_wp2_with fail
    refine (varW_any b _).mono ?_
    rintro e w1 ⟨rfl, rfl⟩
    rw [HB.out]
    go_wp2_with fail
    refine (compare_any va vb _ 0 HC).mono ?_
    rintro e w1 ⟨rfl, rfl⟩
    go_wp2_with fail
    refine (compare_any a b _ d HD).mono ?_
    rintro e w1 ⟨rfl, rfl⟩
    go_wp2_with fail
    go_ret
    exact ⟨ret_int hv.out, rfl⟩
  · have hv : Hid (c = cfW a b) := Lib.hid (by unfold cfW; rw [hva, hvb, hc, if_neg h0])
    have hne : (c != 0) = true := by simp [h0]
    clear hva hvb hc hd
    go_enter Try.func41, Try.ntmps41
    go_wp2_with fail
    refine (varW_any a _).mono ?_
    rintro e w1 ⟨rfl, rfl⟩
    rw [HA.out]
    go_wp2_with fail
    refine (varW_any b _).mono ?_
    rintro e w1 ⟨rfl, rfl⟩
    rw [HB.out]
    go_wp2_with fail
    refine (compare_any va vb _ c HC).mono ?_
    rintro e w1 ⟨rfl, rfl⟩
    go_wp2_with fail
    go_ret
    exact ⟨ret_int hv.out, rfl⟩
theorem varW_small {x : Int} (h : -1000000 ≤ x ∧ x ≤ 1000000) : varW x = varI x := by
  unfold varW varI
  rw [IntWalk.i64_in _ (by omega)]
  split <;> omega
end Go.Proofs.Ytiimkhnngpfnbaa
