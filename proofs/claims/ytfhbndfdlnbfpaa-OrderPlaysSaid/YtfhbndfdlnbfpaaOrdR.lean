/- A heap by its scores and what is in, and the contracts of its methods over that. -/
import Derived.Test.YtfhbndfdlnbfpaaOrdQ
namespace Go.Proofs.Ytfhbndfdlnbfpaa
open Go.RowKit
set_option linter.unusedVariables false
/-- the heap at block H, of the blocks L: its scores, and what is in (in whatever order) -/
def IsHeap (w : World) (L : List Nat) (H : Nat) (sc : List Int) (ins : List Nat) : Prop :=
  ∃ S P gv hp pl, HeapAt w H S P gv sc hp pl ∧ hp.Perm ins ∧ HeapFrom sc hp 0 ∧ ScOk sc ∧
    ((∃ G cg, gv = .slice (some ⟨G, 0, none⟩) hp.length cg ∧ sc.length ≤ cg + 1 ∧ L = [H, S, P, G]) ∨ (gv = .slice none 0 0 ∧ sc.length = 1 ∧ hp = [] ∧ L = [H, S, P]))
theorem IsHeap.drewN {w : World} {L : List Nat} {H : Nat} {sc : List Int} {ins : List Nat} (h : IsHeap w L H sc ins) (q : Nat) : IsHeap (w.drewN q) L H sc ins := by
  obtain ⟨S, P, gv, hp, pl, h1, h2, h3, h4, h5⟩ := h
  exact ⟨S, P, gv, hp, pl, h1.drewN q, h2, h3, h4, h5⟩
theorem IsHeap.perm {w : World} {L : List Nat} {H : Nat} {sc : List Int} {ins ins' : List Nat} (h : IsHeap w L H sc ins) (hq : ins.Perm ins') : IsHeap w L H sc ins' := by
  obtain ⟨S, P, gv, hp, pl, h1, h2, h3, h4, h5⟩ := h
  exact ⟨S, P, gv, hp, pl, h1, h2.trans hq, h3, h4, h5⟩
theorem IsHeap.lt {w : World} {L : List Nat} {H : Nat} {sc : List Int} {ins : List Nat} (h : IsHeap w L H sc ins) : ∀ b ∈ L, b < w.heap.size := by
  obtain ⟨S, P, gv, hp, pl, h1, h2, h3, h4, h5⟩ := h
  intro b hb
  rcases h5 with ⟨G, cg, rfl, _, rfl⟩ | ⟨rfl, _, _, rfl⟩
  · simp only [List.mem_cons, List.not_mem_nil, or_false] at hb
    rcases hb with rfl | rfl | rfl | rfl
    · exact h1.ltH
    · exact h1.ltS
    · exact h1.ltP
    · exact (h1.rG.lt _ rfl).2
  · simp only [List.mem_cons, List.not_mem_nil, or_false] at hb
    rcases hb with rfl | rfl | rfl
    · exact h1.ltH
    · exact h1.ltS
    · exact h1.ltP
theorem IsHeap.kept {w w' : World} {L L' : List Nat} {H : Nat} {sc : List Int} {ins : List Nat} (h : IsHeap w L H sc ins) (hk : Kept L' w w') (hd : ∀ b ∈ L, b ∉ L') : IsHeap w' L H sc ins := by
  obtain ⟨S, P, gv, hp, pl, h1, h2, h3, h4, h5⟩ := h
  refine ⟨S, P, gv, hp, pl, ?_, h2, h3, h4, h5⟩
  rcases h5 with ⟨G, cg, rfl, _, rfl⟩ | ⟨rfl, _, _, rfl⟩
  · exact h1.kept hk (hd _ (by simp)) (hd _ (by simp)) (hd _ (by simp)) (fun g hg => by cases hg; exact hd _ (by simp))
  · exact h1.kept hk (hd _ (by simp)) (hd _ (by simp)) (hd _ (by simp)) (fun g hg => by cases hg)
theorem IsHeap.sz {w : World} {L : List Nat} {H : Nat} {sc : List Int} {ins : List Nat} (h : IsHeap w L H sc ins) : sc.length ≤ 401 := by
  obtain ⟨S, P, gv, hp, pl, h1, _⟩ := h
  exact h1.sz
theorem IsHeap.ok {w : World} {L : List Nat} {H : Nat} {sc : List Int} {ins : List Nat} (h : IsHeap w L H sc ins) : ScOk sc := by
  obtain ⟨S, P, gv, hp, pl, h1, h2, h3, h4, _⟩ := h
  exact h4
theorem IsHeap.nodup {w : World} {L : List Nat} {H : Nat} {sc : List Int} {ins : List Nat} (h : IsHeap w L H sc ins) : ins.Nodup := by
  obtain ⟨S, P, gv, hp, pl, h1, h2, _⟩ := h
  exact h2.nodup_iff.1 h1.nd
theorem IsHeap.rg {w : World} {L : List Nat} {H : Nat} {sc : List Int} {ins : List Nat} (h : IsHeap w L H sc ins) : ∀ v ∈ ins, 1 ≤ v ∧ v < sc.length := by
  obtain ⟨S, P, gv, hp, pl, h1, h2, _⟩ := h
  exact fun v hv => h1.rg v (h2.mem_iff.2 hv)
theorem IsHeap.short {w : World} {L : List Nat} {H : Nat} {sc : List Int} {ins : List Nat} (h : IsHeap w L H sc ins) : ins.length ≤ 401 :=
  Nat.le_trans (nodup_len sc.length ins h.nodup (fun v hv => (h.rg v hv).2)) h.sz
/-- New's -/
def NewHeap (w : World) (n : Nat) (e : Ending) (w' : World) : Prop :=
  ∃ L H, e = .returned (.tuple #[.pointer (some ⟨H, 0, none⟩), .int .i64 0]) ∧ IsHeap w' L H (List.replicate (n + 1) 0) (upto n) ∧ (∀ b ∈ L, w.heap.size ≤ b) ∧ Below w.heap.size w w'
theorem rep_get (m v : Nat) : (List.replicate m (0 : Int)).getD v 0 = 0 := by
  by_cases h : v < m <;> simp [h]
theorem new_heap (n : Nat) (w : World) (hn : n ≤ 400) : Calls Try.prog 12 #[.int .i64 n] w (NewHeap w n) := by
  refine (new_any n w hn).mono ?_
  rintro e w' ⟨H, S, P, gv, pl, rfl, hA, hb, hbel⟩
  have hok : ScOk (List.replicate (n + 1) 0) := fun v hv => by rw [rep_get]; omega
  rcases hA.rG.2 with ⟨h1, h2⟩ | ⟨g, cap, cur, h1, h2, h3, h4, _⟩
  · rw [upto_len] at h2
    refine ⟨[H, S, P], H, rfl, ⟨S, P, gv, upto n, pl, hA, .refl _, heap_upto _ _, hok, .inr ⟨h1, by simp [h2], by rw [h2]; rfl, rfl⟩⟩, ?_, hbel⟩
    intro b hb'
    simp only [List.mem_cons, List.not_mem_nil, or_false] at hb'
    rcases hb' with rfl | rfl | rfl
    · exact hb.1
    · exact hb.2.1
    · exact hb.2.2.1
  · rw [upto_len] at h4
    refine ⟨[H, S, P, g], H, rfl, ⟨S, P, gv, upto n, pl, hA, .refl _, heap_upto _ _, hok, .inl ⟨g, cap, h1, by simp; omega, rfl⟩⟩, ?_, hbel⟩
    intro b hb'
    simp only [List.mem_cons, List.not_mem_nil, or_false] at hb'
    rcases hb' with rfl | rfl | rfl | rfl
    · exact hb.1
    · exact hb.2.1
    · exact hb.2.2.1
    · exact hb.2.2.2 _ (by rw [h1]; rfl)
theorem hlen (w : World) (L : List Nat) (H : Nat) (sc : List Int) (ins : List Nat) (h : IsHeap w L H sc ins) :
    Calls Try.prog 17 #[.pointer (some ⟨H, 0, none⟩)] w fun e w' => e = .returned (.int .i64 ins.length) ∧ w' = w := by
  obtain ⟨S, P, gv, hp, pl, h1, h2, _⟩ := h
  rw [← h2.length_eq]
  exact len_any w H S P gv sc hp pl h1
def hasB (sc : List Int) (ins : List Nat) (v : Int) : Bool := knownB sc.length v && decide (v.toNat ∈ ins)
def scoreI (sc : List Int) (v : Int) : Int := if knownB sc.length v then sc.getD v.toNat 0 else 0
theorem known_nat {m : Nat} {v : Int} (h : knownB m v = true) : ∃ n : Nat, v = n ∧ 1 ≤ n ∧ n < m := by
  unfold knownB at h
  have := of_decide_eq_true h
  exact ⟨v.toNat, by omega, by omega, by omega⟩
theorem hscore (w : World) (L : List Nat) (H : Nat) (sc : List Int) (ins : List Nat) (h : IsHeap w L H sc ins) (v : Int) (x : Int) (HX : Hid (scoreI sc v = x)) :
    Calls Try.prog 14 #[.pointer (some ⟨H, 0, none⟩), .int .i64 v] w fun e w' => e = .returned (.int .i64 x) ∧ w' = w := by
  obtain ⟨S, P, gv, hp, pl, h1, h2, _⟩ := h
  have hx := HX.out
  unfold scoreI at hx
  by_cases hv : knownB sc.length v = true
  · rw [if_pos hv] at hx
    obtain ⟨n, rfl, n1, n2⟩ := known_nat hv
    rw [Int.toNat_natCast] at hx
    rw [← hx]
    exact score_in w H S P gv sc hp pl h1 n n1 n2
  · rw [if_neg hv] at hx
    rw [← hx]
    exact score_out w H S P gv sc hp pl h1 v (by simpa using hv)
theorem hhas (w : World) (L : List Nat) (H : Nat) (sc : List Int) (ins : List Nat) (h : IsHeap w L H sc ins) (v : Int) (r : Bool) (HR : Hid (hasB sc ins v = r)) :
    Calls Try.prog 16 #[.pointer (some ⟨H, 0, none⟩), .int .i64 v] w fun e w' => e = .returned (.bool r) ∧ ∃ m, w' = w.drewN m := by
  obtain ⟨S, P, gv, hp, pl, h1, h2, _⟩ := h
  have hr := HR.out
  unfold hasB at hr
  by_cases hv : knownB sc.length v = true
  · rw [hv, Bool.true_and] at hr
    obtain ⟨n, rfl, n1, n2⟩ := known_nat hv
    rw [Int.toNat_natCast] at hr
    refine has_in w H S P gv sc hp pl h1 n n1 n2 r ?_
    rw [← hr]
    exact decide_eq_decide.2 h2.mem_iff.symm
  · have hv' : knownB sc.length v = false := by simpa using hv
    rw [hv', Bool.false_and] at hr
    rw [← hr]
    exact has_out w H S P gv sc hp pl h1 v hv'
/-- t goes out first of what is in -/
def IsTop (sc : List Int) (ins : List Nat) (t : Nat) : Prop := t ∈ ins ∧ ∀ u ∈ ins, ¬ ahd sc u t
theorem isTop_unique {sc : List Int} {ins : List Nat} {t u : Nat} (h : IsTop sc ins t) (k : IsTop sc ins u) : t = u := by
  apply Classical.byContradiction
  intro hn
  exact h.2 u k.1 (ahd_total hn (k.2 t h.1))
def PopHeap (w : World) (L : List Nat) (H : Nat) (sc : List Int) (ins : List Nat) (e : Ending) (w' : World) : Prop :=
  ∃ t, e = .returned (.tuple #[.int .i64 (t : Nat), .bool true]) ∧ IsTop sc ins t ∧ IsHeap w' L H sc (ins.erase t) ∧ Kept L w w'
theorem hpop_none (w : World) (L : List Nat) (H : Nat) (sc : List Int) (h : IsHeap w L H sc []) :
    Calls Try.prog 15 #[.pointer (some ⟨H, 0, none⟩)] w fun e w' => e = .returned (.tuple #[.int .i64 0, .bool false]) ∧ w' = w := by
  obtain ⟨S, P, gv, hp, pl, h1, h2, _⟩ := h
  obtain rfl := h2.eq_nil
  exact pop_empty w H S P gv sc pl h1
theorem hpop (w : World) (L : List Nat) (H : Nat) (sc : List Int) (ins : List Nat) (h : IsHeap w L H sc ins) (hi : ins ≠ []) :
    Calls Try.prog 15 #[.pointer (some ⟨H, 0, none⟩)] w (PopHeap w L H sc ins) := by
  have hs := h.short
  obtain ⟨S, P, gv, hp, pl, h1, h2, h3, h4, h5⟩ := h
  have hl := h2.length_eq
  have hpos : 0 < ins.length := List.length_pos_iff.2 hi
  rcases h5 with ⟨G, cg, rfl, hc, rfl⟩ | ⟨_, _, rfl, _⟩
  · refine (pop_some w H S P G cg _ sc hp pl h1 h3 (hp.length - 1) (by omega) (by omega)).mono ?_
    rintro e w' ⟨rfl, hp', pl', hA, hperm, hf, hk⟩
    have hm : hp.getD 0 0 ∈ hp := getD_mem _ _ (by omega)
    refine ⟨hp.getD 0 0, rfl, ⟨h2.mem_iff.1 hm, fun u hu => ?_⟩, ⟨S, P, _, hp', pl', hA, ?_, hf, h4, .inl ⟨G, cg, rfl, hc, rfl⟩⟩, hk⟩
    · obtain ⟨i, hi', e⟩ := mem_getD (h2.mem_iff.2 hu)
      rw [← e]
      exact heap_first h3 i hi'
    · have p1 : (hp.getD 0 0 :: hp').Perm (hp.getD 0 0 :: ins.erase (hp.getD 0 0)) := (hperm.trans h2).trans (List.perm_cons_erase (h2.mem_iff.1 hm))
      exact p1.cons_inv
  · exfalso; simp at hl; omega
theorem hpush_out (w : World) (L : List Nat) (H : Nat) (sc : List Int) (ins : List Nat) (h : IsHeap w L H sc ins) (v : Int) (hv : knownB sc.length v = false ∨ v.toNat ∈ ins) :
    Calls Try.prog 19 #[.pointer (some ⟨H, 0, none⟩), .int .i64 v] w fun e w' => e = .returned (.tuple #[]) ∧ ∃ m, w' = w.drewN m := by
  obtain ⟨S, P, gv, hp, pl, h1, h2, _⟩ := h
  by_cases hk : knownB sc.length v = true
  · obtain ⟨n, rfl, n1, n2⟩ := known_nat hk
    rw [hk] at hv
    rcases hv with hv | hv
    · cases hv
    · exact push_has w H S P gv sc hp pl h1 n (h2.mem_iff.2 (by simpa using hv))
  · exact push_out w H S P gv sc hp pl h1 v (by simpa using hk)
theorem hpush (w : World) (L : List Nat) (H : Nat) (sc : List Int) (ins : List Nat) (h : IsHeap w L H sc ins) (v : Nat) (h1 : 1 ≤ v) (h2 : v < sc.length) (hv : v ∉ ins) :
    Calls Try.prog 19 #[.pointer (some ⟨H, 0, none⟩), .int .i64 v] w fun e w' => e = .returned (.tuple #[]) ∧ IsHeap w' L H sc (v :: ins) ∧ Kept L w w' := by
  obtain ⟨S, P, gv, hp, pl, k1, k2, k3, k4, k5⟩ := h
  rcases k5 with ⟨G, cg, rfl, hc, rfl⟩ | ⟨_, h0, _, _⟩
  · refine (push_in w H S P G cg _ sc hp pl k1 k3 v h1 h2 (fun hx => hv (k2.mem_iff.1 hx)) hc).mono ?_
    rintro e w' ⟨rfl, hp', pl', hA, hperm, hf, hk⟩
    exact ⟨rfl, ⟨S, P, _, hp', pl', hA, hperm.trans (k2.cons v), hf, k4, .inl ⟨G, cg, rfl, hc, rfl⟩⟩, hk⟩
  · omega
theorem hbump_out (w : World) (L : List Nat) (H : Nat) (sc : List Int) (ins : List Nat) (h : IsHeap w L H sc ins) (v b : Int) (hv : knownB sc.length v = false ∨ b < 0 ∨ 1099511627776 < b) :
    Calls Try.prog 13 #[.pointer (some ⟨H, 0, none⟩), .int .i64 v, .int .i64 b] w fun e w' => e = .returned (.bool false) ∧ w' = w := by
  obtain ⟨S, P, gv, hp, pl, h1, h2, _⟩ := h
  exact bump_out w H S P gv sc hp pl h1 v b hv
theorem hbump (w : World) (L : List Nat) (H : Nat) (sc : List Int) (ins : List Nat) (h : IsHeap w L H sc ins) (v : Nat) (h1 : 1 ≤ v) (h2 : v < sc.length) (b : Int) (b0 : 0 ≤ b) (b1 : b ≤ 1099511627776) :
    Calls Try.prog 13 #[.pointer (some ⟨H, 0, none⟩), .int .i64 v, .int .i64 b] w fun e w' => e = .returned (.bool (decide (1099511627776 < sc.getD v 0 + b))) ∧ IsHeap w' L H (bumpSc sc v b) ins ∧ Kept L w w' := by
  obtain ⟨S, P, gv, hp, pl, k1, k2, k3, k4, k5⟩ := h
  have hok := bumpSc_ok k4 v b b0 b1
  have hln := bumpSc_len sc v b
  rcases k5 with ⟨G, cg, rfl, hc, rfl⟩ | ⟨_, h0, _, _⟩
  · by_cases hs : sc.getD v 0 + b ≤ 1099511627776
    · have e1 : bumpSc sc v b = raise sc v b := if_pos hs
      rw [e1] at hok hln ⊢
      refine (bump_small w H S P G cg _ sc hp pl k1 k3 k4 v h1 h2 b b0 b1 hs).mono ?_
      rintro e w' ⟨rfl, hp', pl', hA, hperm, hf, hk⟩
      refine ⟨ret_bool (decide_eq_false (by omega)).symm, ⟨S, P, _, hp', pl', hA, hperm.trans k2, hf, hok, .inl ⟨G, cg, by rw [hperm.length_eq], by omega, rfl⟩⟩, hk⟩
    · have e1 : bumpSc sc v b = shr20 (raise sc v b) := if_neg hs
      rw [e1] at hok hln ⊢
      refine (bump_big w H S P G cg _ sc hp pl k1 k3 k4 v h1 h2 b b0 b1 (by omega)).mono ?_
      rintro e w' ⟨rfl, hp', pl', hA, hperm, hf, hk⟩
      refine ⟨ret_bool (decide_eq_true (by omega)).symm, ⟨S, P, _, hp', pl', hA, hperm.trans k2, hf, hok, .inl ⟨G, cg, by rw [hperm.length_eq], by omega, rfl⟩⟩, hk⟩
  · omega
end Go.Proofs.Ytfhbndfdlnbfpaa
