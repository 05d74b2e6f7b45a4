/- Parts of the proofs, put together: CnM. -/
import Derived.Test.YtiimkhnngpfnbaaR7
import Derived.Shelf.SlSortCmp.Insertion
import Derived.Lib.SlicesCompact
import Derived.Lib.RowBridge
/- A clause in order, each literal once: plain. -/
namespace Go.Proofs.Ytiimkhnngpfnbaa
open Go.RowKit
set_option linter.unusedVariables false
/-- the order as a number -/
def cfI (a b : Int) : Int := if varI a < varI b then -1 else if varI b < varI a then 1 else if a < b then -1 else if b < a then 1 else 0
theorem ltOf_bef (a b : Int) : ltOf cfI a b = decide (befI a b) := by
  unfold ltOf cfI befI
  congr 1
  apply propext
  constructor
  · intro h
    split at h
    · exact .inl (by assumption)
    · split at h
      · omega
      · split at h
        · exact .inr ⟨by omega, by assumption⟩
        · split at h <;> omega
  · intro h
    split
    · omega
    · split
      · omega
      · split
        · omega
        · split <;> omega
/-- the elements in order -/
def sortI (c : List Int) : List Int := c.mergeSort fun x y => !(ltOf cfI) y x
theorem sortI_mem (c : List Int) (x : Int) : x ∈ sortI c ↔ x ∈ c := List.mem_mergeSort
theorem sortI_length (c : List Int) : (sortI c).length = c.length := List.length_mergeSort _
theorem sortI_ord (c : List Int) : (sortI c).Pairwise fun x y => ¬ befI y x := by
  have := List.pairwise_mergeSort (le := fun x y => !(ltOf cfI) y x)
    (fun a b c h1 h2 => by
      simp only [Bool.not_eq_true'] at h1 h2 ⊢
      rw [ltOf_bef, decide_eq_false_iff_not] at h1 h2 ⊢
      unfold befI at *; omega)
    (fun a b => by
      rw [ltOf_bef, ltOf_bef]
      by_cases h : befI b a
      · rw [decide_eq_true h, decide_eq_false (bef_asymm h)]; rfl
      · rw [decide_eq_false h]; rfl) c
  refine this.imp (fun {x y} h => ?_)
  simp only [Bool.not_eq_true', ltOf_bef, decide_eq_false_iff_not] at h
  exact h
theorem compactUpTo_bef (d : Array Int) (hd : ∀ i j, i < j → j < d.size → ¬ befI d[j]! d[i]!) : ∀ m, m ≤ d.size →
    Sorted (Go.Lib.compactUpTo d m) ∧ (∀ x, x ∈ Go.Lib.compactUpTo d m ↔ ∃ i, i < m ∧ d[i]! = x) := by
  intro m
  induction m with
  | zero => intro _; exact ⟨by simp [Go.Lib.compactUpTo, Sorted], fun x => by simp [Go.Lib.compactUpTo]⟩
  | succ m ih =>
    intro hm
    obtain ⟨h1, h2⟩ := ih (by omega)
    rw [Go.Lib.compactUpTo_succ]
    by_cases hk : Go.Lib.keeps d m = true
    · rw [if_pos hk]
      refine ⟨?_, fun x => ?_⟩
      · unfold Sorted
        rw [List.pairwise_append]
        refine ⟨h1, List.pairwise_singleton _ _, fun a ha b hb => ?_⟩
        rw [List.mem_singleton] at hb
        subst hb
        obtain ⟨i, hi, rfl⟩ := (h2 a).1 ha
        have hne : m = 0 ∨ d[m]! ≠ d[m - 1]! := by simpa [Go.Lib.keeps] using hk
        have hne : d[m]! ≠ d[m - 1]! := hne.resolve_left (by omega)
        have n1 := hd (m - 1) m (by omega) (by omega)
        have b1 : befI d[m - 1]! d[m]! := Classical.byContradiction fun hn => hne (bef_total n1 hn)
        by_cases him : i = m - 1
        · rw [him]; exact b1
        · have n2 := hd i (m - 1) (by omega) (by omega)
          unfold befI at *; omega
      · rw [List.mem_append, h2, List.mem_singleton]
        constructor
        · rintro (⟨i, hi, e⟩ | rfl)
          · exact ⟨i, by omega, e⟩
          · exact ⟨m, by omega, rfl⟩
        · rintro ⟨i, hi, e⟩
          by_cases him : i = m
          · subst him; exact .inr e.symm
          · exact .inl ⟨i, by omega, e⟩
    · have hk' : Go.Lib.keeps d m = false := by simpa using hk
      rw [hk', if_neg (by simp), List.append_nil]
      refine ⟨h1, fun x => ?_⟩
      rw [h2]
      constructor
      · rintro ⟨i, hi, e⟩; exact ⟨i, by omega, e⟩
      · rintro ⟨i, hi, e⟩
        by_cases him : i = m
        · subst him
          have : ¬ (i = 0 ∨ d[i]! ≠ d[i - 1]!) := by simpa [Go.Lib.keeps] using hk'
          rw [not_or, Classical.not_not] at this
          exact ⟨i - 1, by omega, by rw [← this.2]; exact e⟩
        · exact ⟨i, by omega, e⟩
/-- in order, each once -/
def normL (c : List Int) : List Int := Go.Lib.compact (sortI c)
theorem normL_both (c : List Int) : Sorted (normL c) ∧ (∀ x, x ∈ normL c ↔ x ∈ c) := by
  have hd : ∀ i j, i < j → j < (sortI c).toArray.size → ¬ befI (sortI c).toArray[j]! (sortI c).toArray[i]! := by
    intro i j hij hj
    have hj' : j < (sortI c).length := by simpa using hj
    have := (List.pairwise_iff_getElem.1 (sortI_ord c)) i j (by omega) hj' hij
    rw [getElem!_pos _ j hj, getElem!_pos _ i (by omega)]
    simpa using this
  obtain ⟨h1, h2⟩ := compactUpTo_bef (sortI c).toArray hd (sortI c).length (by simp)
  refine ⟨h1, fun x => ?_⟩
  unfold normL Go.Lib.compact
  rw [h2, ← sortI_mem c x, List.mem_iff_getElem]
  constructor
  · rintro ⟨i, hi, e⟩
    refine ⟨i, hi, ?_⟩
    rw [getElem!_pos _ i (by simpa using hi)] at e
    simpa using e
  · rintro ⟨i, hi, e⟩
    refine ⟨i, hi, ?_⟩
    rw [getElem!_pos _ i (by simpa using hi)]
    simpa using e
theorem normL_sorted (c : List Int) : Sorted (normL c) := (normL_both c).1
theorem normL_mem (c : List Int) (x : Int) : x ∈ normL c ↔ x ∈ c := (normL_both c).2 x
theorem normL_of {c l : List Int} (h : Sorted l) (hm : ∀ x, x ∈ l ↔ x ∈ c) : l = normL c := sorted_ext _ _ h (normL_sorted c) (fun x => (hm x).trans (normL_mem c x).symm)
theorem normL_len (c : List Int) : (normL c).length ≤ c.length := by rw [← sortI_length c]; exact Go.Lib.compact_length_le _
/-- the reference's place for a literal: how many stay ahead of it -/
def placeR (x : Int) (out : List Int) : Nat → Nat
  | 0 => 0
  | k + 1 => if befI x (out.getD k 0) then placeR x out k else k + 1
def insR (x : Int) (out : List Int) : List Int := out.take (placeR x out out.length) ++ x :: out.drop (placeR x out out.length)
def stepR (out : List Int) (x : Int) : List Int := if hasB out x then out else insR x out
def normR (c : List Int) : List Int := c.foldl stepR []
theorem placeR_le (x : Int) (out : List Int) : ∀ k, placeR x out k ≤ k := by
  intro k
  induction k with
  | zero => exact Nat.le_refl _
  | succ k ih => unfold placeR; split <;> omega
theorem placeR_ahead (x : Int) (out : List Int) : ∀ k, ∀ j, placeR x out k ≤ j → j < k → befI x (out.getD j 0) := by
  intro k
  induction k with
  | zero => intro j _ h; omega
  | succ k ih =>
    intro j h1 h2
    unfold placeR at h1
    split at h1
    · by_cases h : j = k
      · subst h; assumption
      · exact ih j h1 (by omega)
    · omega
theorem placeR_behind (x : Int) (out : List Int) : ∀ k, placeR x out k = 0 ∨ ¬ befI x (out.getD (placeR x out k - 1) 0) := by
  intro k
  induction k with
  | zero => exact .inl rfl
  | succ k ih =>
    unfold placeR
    split
    · exact ih
    · right; simpa using by assumption
theorem insR_mem (x y : Int) (out : List Int) : y ∈ insR x out ↔ y = x ∨ y ∈ out := by
  unfold insR
  rw [List.mem_append, List.mem_cons]
  have : y ∈ out ↔ y ∈ out.take (placeR x out out.length) ∨ y ∈ out.drop (placeR x out out.length) := by
    rw [← List.mem_append, List.take_append_drop]
  rw [this]
  constructor
  · rintro (h | h | h)
    · exact .inr (.inl h)
    · exact .inl h
    · exact .inr (.inr h)
  · rintro (h | h | h)
    · exact .inr (.inl h)
    · exact .inl h
    · exact .inr (.inr h)
theorem insR_sorted (x : Int) (out : List Int) (h : Sorted out) (hx : x ∉ out) : Sorted (insR x out) := by
  have hp := List.pairwise_iff_getElem.1 h
  have hle := placeR_le x out out.length
  have hg : ∀ j (hj : j < out.length), out.getD j 0 = out[j] := fun j hj => by simp [hj]
  unfold insR Sorted
  rw [List.pairwise_append]
  refine ⟨List.Pairwise.sublist (List.take_sublist _ _) h, ?_, ?_⟩
  · rw [List.pairwise_cons]
    refine ⟨fun y hy => ?_, List.Pairwise.sublist (List.drop_sublist _ _) h⟩
    obtain ⟨i, hi, e⟩ := List.mem_iff_getElem.1 hy
    rw [List.getElem_drop] at e
    rw [List.length_drop] at hi
    have := placeR_ahead x out out.length (placeR x out out.length + i) (by omega) (by omega)
    rw [hg _ (by omega)] at this
    rw [← e]; exact this
  · have hah : ∀ a ∈ out.take (placeR x out out.length), befI a x := by
      intro a ha
      obtain ⟨i, hi, e⟩ := List.mem_iff_getElem.1 ha
      rw [List.getElem_take] at e
      rw [List.length_take] at hi
      have hi1 : i < placeR x out out.length := by omega
      rcases placeR_behind x out out.length with h0 | h0
      · omega
      · have hl : placeR x out out.length - 1 < out.length := by omega
        rw [hg _ hl] at h0
        have hne : out[placeR x out out.length - 1] ≠ x := fun e => hx (e ▸ List.getElem_mem _)
        have b1 : befI out[placeR x out out.length - 1] x := Classical.byContradiction fun hn => hne (bef_total hn h0)
        by_cases him : i = placeR x out out.length - 1
        · subst him; rw [← e]; exact b1
        · rw [← e]; exact bef_trans (hp i _ (by omega) hl (by omega)) b1
    intro a ha b hb
    rcases List.mem_cons.1 hb with rfl | hb
    · exact hah a ha
    · obtain ⟨i, hi, e⟩ := List.mem_iff_getElem.1 hb
      rw [List.getElem_drop] at e
      rw [List.length_drop] at hi
      have := placeR_ahead x out out.length (placeR x out out.length + i) (by omega) (by omega)
      rw [hg _ (by omega)] at this
      rw [← e]; exact bef_trans (hah a ha) this
theorem stepR_both (out : List Int) (x : Int) (h : Sorted out) : Sorted (stepR out x) ∧ ∀ y, y ∈ stepR out x ↔ y = x ∨ y ∈ out := by
  unfold stepR
  by_cases hh : hasB out x = true
  · rw [if_pos hh]
    have hm := List.any_eq_true.1 hh
    obtain ⟨z, hz, e⟩ := hm
    have e' : z = x := by simpa using e
    subst e'
    exact ⟨h, fun y => ⟨.inr, fun hy => hy.elim (fun e => e ▸ hz) id⟩⟩
  · rw [if_neg hh]
    have hx : x ∉ out := fun hx => hh (List.any_eq_true.2 ⟨x, hx, by simp⟩)
    exact ⟨insR_sorted x out h hx, fun y => insR_mem x y out⟩
theorem foldR_both : ∀ (c out : List Int), Sorted out → Sorted (c.foldl stepR out) ∧ ∀ y, y ∈ c.foldl stepR out ↔ y ∈ c ∨ y ∈ out := by
  intro c
  induction c with
  | nil => intro out h; exact ⟨h, fun y => by simp⟩
  | cons x t ih =>
    intro out h
    obtain ⟨h1, h2⟩ := stepR_both out x h
    obtain ⟨h3, h4⟩ := ih _ h1
    refine ⟨h3, fun y => ?_⟩
    rw [List.foldl_cons, h4, h2, List.mem_cons]
    constructor
    · rintro (h | h | h)
      · exact .inl (.inr h)
      · exact .inl (.inl h)
      · exact .inr h
    · rintro ((h | h) | h)
      · exact .inr (.inl h)
      · exact .inl h
      · exact .inr (.inr h)
theorem normR_eq (c : List Int) : normR c = normL c := by
  obtain ⟨h1, h2⟩ := foldR_both c [] List.Pairwise.nil
  exact normL_of h1 (fun x => by rw [show normR c = c.foldl stepR [] from rfl] at *; rw [h2]; simp)
theorem normL_snoc (c : List Int) (x : Int) : normR (c ++ [x]) = stepR (normR c) x := by unfold normR; rw [List.foldl_append]; rfl
theorem cfW_small {a b : Int} (ha : -1000000 ≤ a ∧ a ≤ 1000000) (hb : -1000000 ≤ b ∧ b ≤ 1000000) : cfW a b = cfI a b := by
  unfold cfW cfI cmpI
  rw [varW_small ha, varW_small hb]
  repeat' split
  all_goals omega
theorem cfW_lt (a b : Int) : ltOf cfW a b = decide (varW a < varW b ∨ (varW a = varW b ∧ a < b)) := by
  unfold ltOf cfW cmpI
  congr 1
  apply propext
  repeat' split
  all_goals omega
theorem swo_cfW : Go.Sort.SWO (ltOf cfW) where
  irrefl := fun x => by rw [cfW_lt]; exact decide_eq_false (by omega)
  trans := fun x y z h1 h2 => by
    rw [cfW_lt, decide_eq_true_eq] at h1 h2 ⊢
    omega
  ntrans := fun x y z h1 h2 => by
    rw [cfW_lt, decide_eq_false_iff_not] at h1 h2 ⊢
    omega
theorem tot_cfW (x y : Int) (h1 : ltOf cfW x y = false) (h2 : ltOf cfW y x = false) : x = y := by
  rw [cfW_lt, decide_eq_false_iff_not] at h1 h2
  omega
theorem sortW_eq {c : List Int} (h : ∀ x ∈ c, -1000000 ≤ x ∧ x ≤ 1000000) : (c.mergeSort fun x y => !(ltOf cfW) y x) = sortI c := by
  have := List.map_mergeSort (r := fun x y => !(ltOf cfW) y x) (s := fun x y => !(ltOf cfI) y x) (f := id) (l := c) (fun a ha b hb => by
    show (!(ltOf cfW) b a) = !(ltOf cfI) b a
    unfold ltOf
    rw [cfW_small (h b hb) (h a ha)])
  simpa [sortI] using this
end Go.Proofs.Ytiimkhnngpfnbaa
