/- The contract of the walk of Bump. -/
import Derived.Test.YtfhbndfdlnbfpaaOrdK
namespace Go.Proofs.Ytfhbndfdlnbfpaa
open Go.RowKit
set_option linter.unusedVariables false
/-- all scores are within 0 and the greatest -/
def ScOk (sc : List Int) : Prop := ∀ v, v < sc.length → 0 ≤ sc.getD v 0 ∧ sc.getD v 0 ≤ 1099511627776
def raise (sc : List Int) (v : Nat) (by_ : Int) : List Int := sc.set v (sc.getD v 0 + by_)
def shr20 (sc : List Int) : List Int := sc.map (· / 1048576)
def shrK (k : Nat) (sc : List Int) : List Int := (sc.take k).map (· / 1048576) ++ sc.drop k
def bumpSc (sc : List Int) (v : Nat) (by_ : Int) : List Int := if sc.getD v 0 + by_ ≤ 1099511627776 then raise sc v by_ else shr20 (raise sc v by_)
theorem shrK_len (k : Nat) (sc : List Int) : (shrK k sc).length = sc.length := by simp [shrK]; omega
theorem shrK_zero (sc : List Int) : shrK 0 sc = sc := by simp [shrK]
theorem shrK_all (k : Nat) (sc : List Int) (h : sc.length ≤ k) : shrK k sc = shr20 sc := by simp [shrK, shr20, List.take_of_length_le h, List.drop_of_length_le h]
theorem shrK_get (k : Nat) (sc : List Int) (h : k < sc.length) : (shrK k sc).getD k 0 = sc.getD k 0 := by
  unfold shrK
  simp [List.getElem?_append_right, Nat.min_eq_left (Nat.le_of_lt h)]
theorem shrK_succ (k : Nat) (sc : List Int) (h : k < sc.length) : shrK (k + 1) sc = (shrK k sc).set k (sc.getD k 0 / 1048576) := by
  unfold shrK
  have e1 : sc.drop k = sc.getD k 0 :: sc.drop (k + 1) := by rw [List.drop_eq_getElem_cons h]; simp [h]
  have e2 : sc.take (k + 1) = sc.take k ++ [sc.getD k 0] := by rw [List.take_succ_eq_append_getElem h]; simp [h]
  have e3 : (List.map (· / 1048576) (sc.take k)).length = k := by simp; omega
  rw [e1, e2, List.set_append_right _ _ (by omega), e3, Nat.sub_self, List.set_cons_zero, List.map_append, List.append_assoc]
  rfl
theorem raise_len (sc : List Int) (v : Nat) (b : Int) : (raise sc v b).length = sc.length := by simp [raise]
theorem raise_self (sc : List Int) (v : Nat) (b : Int) (h : v < sc.length) : (raise sc v b).getD v 0 = sc.getD v 0 + b := by simp [raise, h]
theorem raise_ne (sc : List Int) (v u : Nat) (b : Int) (h : u ≠ v) : (raise sc v b).getD u 0 = sc.getD u 0 := by simp [raise, Ne.symm h]
theorem shr20_get (sc : List Int) (v : Nat) : (shr20 sc).getD v 0 = sc.getD v 0 / 1048576 := by
  unfold shr20
  by_cases h : v < sc.length
  · simp [h]
  · simp [h]
theorem bumpSc_len (sc : List Int) (v : Nat) (b : Int) : (bumpSc sc v b).length = sc.length := by unfold bumpSc; split <;> simp [shr20, raise]
theorem bumpSc_ok {sc : List Int} (h : ScOk sc) (v : Nat) (b : Int) (h0 : 0 ≤ b) (h1 : b ≤ 1099511627776) : ScOk (bumpSc sc v b) := by
  intro u hu
  rw [bumpSc_len] at hu
  have hu' := h u hu
  have e : 0 ≤ (raise sc v b).getD u 0 ∧ (raise sc v b).getD u 0 ≤ sc.getD u 0 + b ∧ (u ≠ v → (raise sc v b).getD u 0 = sc.getD u 0) := by
    by_cases hv : u = v
    · subst hv; rw [raise_self _ _ _ hu]; exact ⟨by omega, by omega, fun h => absurd rfl h⟩
    · rw [raise_ne _ _ _ _ hv]; exact ⟨by omega, by omega, fun _ => rfl⟩
  unfold bumpSc
  split
  · by_cases hv : u = v
    · subst hv; omega
    · have := e.2.2 hv; omega
  · rw [shr20_get]; omega
/-- a variable whose score grew may stand behind its place alone -/
theorem upInv_raise {sc : List Int} {hp : List Nat} (h : HeapFrom sc hp 0) (hn : hp.Nodup) (hm : ∀ v ∈ hp, v < sc.length) {i : Nat} (hi : i < hp.length) (b : Int) (hb : 0 ≤ b) : UpInv (raise sc (hp.getD i 0) b) hp i := by
  have hv : hp.getD i 0 < sc.length := hm _ (getD_mem _ _ hi)
  have es := raise_self sc (hp.getD i 0) b hv
  have en : ∀ j, j < hp.length → j ≠ i → (raise sc (hp.getD i 0) b).getD (hp.getD j 0) 0 = sc.getD (hp.getD j 0) 0 := fun j hj hji => raise_ne _ _ _ _ (fun e => hji (nodup_inj hn hj hi e))
  refine ⟨fun j j0 jl jn => ?_, fun j j0 jl jp i0 => ?_⟩
  · have h1 := h j j0 jl (Nat.zero_le _)
    have e1 := en j jl jn
    by_cases hp' : (j - 1) / 2 = i
    · rw [hp'] at h1 ⊢
      unfold ahd at h1 ⊢
      rw [e1, es]; omega
    · have e2 := en ((j - 1) / 2) (by omega) hp'
      unfold ahd at h1 ⊢
      rw [e1, e2]; exact h1
  · have h1 := h j j0 jl (Nat.zero_le _)
    rw [jp] at h1
    have h2 := h i i0 hi (Nat.zero_le _)
    have h3 := ahd_ntrans h1 h2
    have e1 := en j jl (by omega)
    have e2 := en ((i - 1) / 2) (by omega) (by omega)
    unfold ahd at h3 ⊢
    rw [e1, e2]; exact h3
theorem heap_raise_out {sc : List Int} {hp : List Nat} (h : HeapFrom sc hp 0) {v : Nat} (hv : v ∉ hp) (b : Int) : HeapFrom (raise sc v b) hp 0 := by
  intro j j0 jl _
  have h1 := h j j0 jl (Nat.zero_le _)
  have e1 := raise_ne sc v (hp.getD j 0) b (fun e => hv (e ▸ getD_mem _ _ jl))
  have e2 := raise_ne sc v (hp.getD ((j - 1) / 2) 0) b (fun e => hv (e ▸ getD_mem _ _ (by omega)))
  unfold ahd at h1 ⊢
  rw [e1, e2]; exact h1
theorem HeapAt.score {w : World} {H S P : Nat} {gv : Value} {sc : List Int} {hp : List Nat} {pl : List Int} (h : HeapAt w H S P gv sc hp pl) (v : Nat) (x : Int) :
    HeapAt (w.setCell ⟨S, v, none⟩ (.int .i64 x)) H S P gv (sc.set v x) hp pl := by
  have hl : (sc.set v x).length = sc.length := List.length_set
  refine ⟨?_, ?_, ?_, by simpa using h.fr, ?_, ?_, ?_, by rw [hl]; exact h.pl, h.nd, by rw [hl]; exact h.rg, by rw [hl]; exact h.sz, h.HS, h.HP, h.SP, h.GH, h.GS, h.GP⟩
  · rw [cell_ne (addr_ne h.HS), hl]; exact h.c0
  · rw [cell_ne (addr_ne h.HS)]; exact h.c1
  · rw [cell_ne (addr_ne h.HS), hl]; exact h.c2
  · have r := (h.rS.stored v (.int .i64 x)).1
    rw [ints_set] at r
    rw [hl]; exact r
  · exact row_ne (a := ⟨S, v, none⟩) h.rG h.GS _
  · rw [hl]; exact row_ne (a := ⟨S, v, none⟩) h.rP (by simpa [Value.ownBlock] using h.SP.symm) _
theorem bump_nil (w : World) (v b : Int) : Calls Try.prog 13 #[.pointer none, .int .i64 v, .int .i64 b] w fun e w' => e = .returned (.bool false) ∧ w' = w := by
  go_enter Try.func13, Try.ntmps13
  go_wp2_with fail
  refine (known_nil _ _).mono ?_
  rintro e w1 ⟨rfl, rfl⟩
  go_wp2_with fail
  go_ret
  exact ⟨rfl, rfl⟩
def BumpPost (w : World) (H S P G cg n : Nat) (sc : List Int) (hp : List Nat) (w' : World) : Prop :=
  ∃ hp' pl', HeapAt w' H S P (.slice (some ⟨G, 0, none⟩) n cg) sc hp' pl' ∧ hp'.Perm hp ∧ HeapFrom sc hp' 0 ∧ Kept [H, S, P, G] w w'
theorem bump_out (w : World) (H S P : Nat) (gv : Value) (sc : List Int) (hp : List Nat) (pl : List Int) (h : HeapAt w H S P gv sc hp pl) (v b : Int) (hv : knownB sc.length v = false ∨ b < 0 ∨ 1099511627776 < b) :
    Calls Try.prog 13 #[.pointer (some ⟨H, 0, none⟩), .int .i64 v, .int .i64 b] w fun e w' => e = .returned (.bool false) ∧ w' = w := by
  obtain ⟨r, HR⟩ : ∃ r, Hid (knownB sc.length v = r) := ⟨_, rfl⟩
  cases r
  · clear hv
    go_enter Try.func13, Try.ntmps13
    go_wp2_with fail
    refine (known_any _ _ _ _ _ _ _ _ h v false HR).mono ?_
    rintro e w1 ⟨rfl, rfl⟩
    go_wp2_with fail
    go_ret
    exact ⟨rfl, rfl⟩
  · rw [HR.out] at hv
    rcases hv with hv | hv | hv
    · cases hv
    · go_enter Try.func13, Try.ntmps13
      go_wp2_with fail
      refine (known_any _ _ _ _ _ _ _ _ h v true HR).mono ?_
      rintro e w1 ⟨rfl, rfl⟩
      go_wp2_with fail
      go_ret
      exact ⟨rfl, rfl⟩
    · have hv0 : ¬ b < 0 := by omega
      go_enter Try.func13, Try.ntmps13
      go_wp2_with fail
      refine (known_any _ _ _ _ _ _ _ _ h v true HR).mono ?_
      rintro e w1 ⟨rfl, rfl⟩
      go_wp2_with fail
      go_ret
      exact ⟨rfl, rfl⟩
end Go.Proofs.Ytfhbndfdlnbfpaa
