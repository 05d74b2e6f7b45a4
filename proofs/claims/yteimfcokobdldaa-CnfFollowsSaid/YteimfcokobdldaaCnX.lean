/- The reference's Spread, plain: it comes to what the program's does. -/
import Derived.Test.YteimfcokobdldaaCnW
namespace Go.Proofs.Yteimfcokobdldaa
open Go.RowKit
set_option linter.unusedVariables false
/-- a clause looked through: the last open literal, is one true, how many are open -/
def scanC (S : List Int) : List Int → Int → Bool → Nat → Int × Bool × Nat
  | [], o, s, m => (o, s, m)
  | x :: t, o, s, m => if hasB S (-x) = false ∧ x ≠ o then scanC S t x (s || hasB S x) (m + 1) else scanC S t o (s || hasB S x) m
theorem scanC_at (S c : List Int) (k : Nat) (o : Int) (s : Bool) (m : Nat) (h : k < c.length) :
    scanC S (c.drop k) o s m = if hasB S (-(c.getD k 0)) = false ∧ c.getD k 0 ≠ o then scanC S (c.drop (k + 1)) (c.getD k 0) (s || hasB S (c.getD k 0)) (m + 1) else scanC S (c.drop (k + 1)) o (s || hasB S (c.getD k 0)) m := by
  have e : c.getD k 0 = c[k] := by simp [h]
  rw [List.drop_eq_getElem_cons h, e]; rfl
theorem scanC_end (S c : List Int) (o : Int) (s : Bool) (m : Nat) : scanC S (c.drop c.length) o s m = (o, s, m) := by rw [List.drop_length]; rfl
/-- what a clause does to what is true -/
def stepC (S c : List Int) : Option (List Int) :=
  if (scanC S c 0 false 0).2.1 = false ∧ (scanC S c 0 false 0).2.2 = 0 then none
  else if (scanC S c 0 false 0).2.1 = false ∧ (scanC S c 0 false 0).2.2 = 1 then some (S ++ [(scanC S c 0 false 0).1]) else some S
def roundC : List (List Int) → List Int → Option (List Int)
  | [], S => some S
  | c :: t, S => match stepC S c with
    | none => none
    | some S' => roundC t S'
def roundsC (LL : List (List Int)) : Nat → List Int → Option (List Int)
  | 0, S => some S
  | k + 1, S => match roundC LL S with
    | none => none
    | some S' => roundsC LL k S'
/-- what is true, and what variables are -/
structure Rep (n : Nat) (S V : List Int) : Prop where
  len : V.length = n + 1
  zero : V.getD 0 0 = 0
  small : ∀ v ∈ V, -1 ≤ v ∧ v ≤ 1
  lit : ∀ x ∈ S, x ≠ 0 ∧ -(n : Int) ≤ x ∧ x ≤ n
  iff : ∀ x : Int, x ≠ 0 → x.natAbs ≤ n → (x ∈ S ↔ ofV V x = 1)
theorem hasB_iff (c : List Int) (x : Int) : hasB c x = true ↔ x ∈ c := ⟨hasB_mem, fun h => List.any_eq_true.2 ⟨x, h, by simp⟩⟩
theorem hasB_no (c : List Int) (x : Int) : hasB c x = false ↔ x ∉ c := by rw [← Bool.not_eq_true, hasB_iff]
theorem Rep.val {n : Nat} {S V : List Int} (h : Rep n S V) (x : Int) : -1 ≤ ofV V x ∧ ofV V x ≤ 1 := by
  have hv : -1 ≤ V.getD x.natAbs 0 ∧ V.getD x.natAbs 0 ≤ 1 := by
    by_cases hk : x.natAbs < V.length
    · have e : V.getD x.natAbs 0 = V[x.natAbs] := by simp [hk]
      rw [e]; exact h.small _ (List.getElem_mem hk)
    · simp [List.getD, List.getElem?_eq_none (Nat.le_of_not_lt hk)]
  unfold ofV
  split <;> omega
theorem ofV_neg (V : List Int) (x : Int) (h0 : x ≠ 0) : ofV V (-x) = -ofV V x := by
  unfold ofV
  rw [Int.natAbs_neg]
  by_cases h : x < 0
  · rw [if_neg (by omega), if_pos h]; omega
  · rw [if_pos (by omega), if_neg h]
theorem Rep.pos {n : Nat} {S V : List Int} (h : Rep n S V) {x : Int} (h0 : x ≠ 0) (hx : x.natAbs ≤ n) : hasB S x = decide (ofV V x = 1) := by
  rw [Bool.eq_iff_iff, hasB_iff, decide_eq_true_eq]; exact h.iff x h0 hx
theorem Rep.neg {n : Nat} {S V : List Int} (h : Rep n S V) {x : Int} (h0 : x ≠ 0) (hx : x.natAbs ≤ n) : hasB S (-x) = decide (ofV V x = -1) := by
  rw [h.pos (by omega) (by rw [Int.natAbs_neg]; exact hx), ofV_neg V x h0]
  rw [Bool.eq_iff_iff, decide_eq_true_eq, decide_eq_true_eq]; omega
theorem scanC_some (S : List Int) : ∀ (c : List Int) (o : Int) (m : Nat), (scanC S c o true m).2.1 = true := by
  intro c
  induction c with
  | nil => intro o m; rfl
  | cons x t ih =>
    intro o m
    unfold scanC
    split <;> exact ih _ _
theorem scanC_many (S : List Int) : ∀ (c : List Int) (o : Int) (s : Bool) (m : Nat), m ≤ (scanC S c o s m).2.2 := by
  intro c
  induction c with
  | nil => intro o s m; exact Nat.le_refl _
  | cons x t ih =>
    intro o s m
    unfold scanC
    split
    · exact Nat.le_trans (Nat.le_succ m) (ih _ _ _)
    · exact ih _ _ _
/-- what is looked through in both ways -/
def FitsC (R : Int × Bool × Nat) (u : Int × Bool) (o : Int) (c : List Int) : Prop :=
  if R.2.1 = true ∨ 2 ≤ R.2.2 then u = (0, true) else u = (R.1, R.1 != 0) ∧ ((R.2.2 = 0 ∧ R.1 = 0) ∨ (R.2.2 = 1 ∧ R.1 ≠ 0 ∧ (R.1 = o ∨ R.1 ∈ c)))
theorem FitsC.of {R : Int × Bool × Nat} {u : Int × Bool} {o o' : Int} {c c' : List Int} (h : FitsC R u o c) (hs : ∀ y, y ≠ 0 → (y = o ∨ y ∈ c) → (y = o' ∨ y ∈ c')) : FitsC R u o' c' := by
  unfold FitsC at h ⊢
  split
  · rename_i hh; rw [if_pos hh] at h; exact h
  · rename_i hh
    rw [if_neg hh] at h
    exact ⟨h.1, h.2.imp id (fun g => ⟨g.1, g.2.1, hs _ g.2.1 g.2.2⟩)⟩
theorem scanC_yes {S : List Int} {x o : Int} {t : List Int} {s : Bool} {m : Nat} (h1 : hasB S (-x) = false) (h2 : x ≠ o) : scanC S (x :: t) o s m = scanC S t x (s || hasB S x) (m + 1) := by
  show (if _ then _ else _) = _
  rw [if_pos ⟨h1, h2⟩]
theorem scanC_no {S : List Int} {x o : Int} {t : List Int} {s : Bool} {m : Nat} (h : ¬ (hasB S (-x) = false ∧ x ≠ o)) : scanC S (x :: t) o s m = scanC S t o (s || hasB S x) m := by
  show (if _ then _ else _) = _
  rw [if_neg h]
theorem scan_unit {n : Nat} {S V : List Int} (h : Rep n S V) : ∀ (c : List Int) (o : Int) (m : Nat), (∀ x ∈ c, x ≠ 0 ∧ x.natAbs ≤ n) → ((m = 0 ∧ o = 0) ∨ (m = 1 ∧ o ≠ 0)) → FitsC (scanC S c o false m) (unitL V c o) o c := by
  intro c
  induction c with
  | nil =>
    intro o m _ hm
    show if false = true ∨ 2 ≤ m then _ else _
    rw [if_neg (by rcases hm with hm | hm <;> simp <;> omega)]
    refine ⟨rfl, ?_⟩
    rcases hm with hm | hm
    · exact .inl ⟨hm.1, hm.2⟩
    · exact .inr ⟨hm.1, hm.2, .inl rfl⟩
  | cons x t ih =>
    intro o m hc hm
    obtain ⟨x0, xn⟩ := hc x (by simp)
    have ht : ∀ y ∈ t, y ≠ 0 ∧ y.natAbs ≤ n := fun y hy => hc y (by simp [hy])
    have hp := h.pos x0 xn
    have hn := h.neg x0 xn
    have hv := h.val x
    by_cases v1 : ofV V x = 1
    · rw [decide_eq_true v1] at hp
      have eu : unitL V (x :: t) o = (0, true) := by
        show (if _ then _ else _) = _
        rw [if_pos (by omega : 0 < ofV V x)]
      have key : ∀ (o' : Int) (m' : Nat), FitsC (scanC S t o' true m') (0, true) o (x :: t) := by
        intro o' m'
        unfold FitsC
        rw [if_pos (.inl (scanC_some S t o' m'))]
      rw [eu]
      by_cases hxo : hasB S (-x) = false ∧ x ≠ o
      · rw [scanC_yes hxo.1 hxo.2, hp]; exact key _ _
      · rw [scanC_no hxo, hp]; exact key _ _
    · rw [decide_eq_false v1] at hp
      by_cases v0 : ofV V x = 0
      · rw [decide_eq_false (by omega : ¬ ofV V x = -1)] at hn
        by_cases hxo : x ≠ o
        · rw [scanC_yes hn hxo, hp]
          rcases hm with ⟨rfl, rfl⟩ | ⟨rfl, ho⟩
          · have eu : unitL V (x :: t) 0 = unitL V t x := by
              show (if _ then _ else _) = _
              rw [if_neg (by omega : ¬ 0 < ofV V x), if_neg (fun hh => hh.2.1 rfl), if_pos v0]
            rw [eu]
            refine (ih x 1 ht (.inr ⟨rfl, x0⟩)).of (fun y _ hy => .inr ?_)
            rcases hy with rfl | hy
            · simp
            · simp [hy]
          · have eu : unitL V (x :: t) o = (0, true) := by
              show (if _ then _ else _) = _
              rw [if_neg (by omega : ¬ 0 < ofV V x), if_pos ⟨v0, ho, hxo⟩]
            rw [eu]
            unfold FitsC
            rw [if_pos (.inr (scanC_many S t x _ 2))]
        · have hxo' : x = o := Classical.not_not.1 hxo
          have eu : unitL V (x :: t) o = unitL V t o := by
            show (if _ then _ else _) = _
            rw [if_neg (by omega : ¬ 0 < ofV V x), if_neg (fun hh => hxo hh.2.2), if_pos v0, hxo']
          rw [scanC_no (fun hh => hxo hh.2), hp, eu]
          exact (ih o m ht hm).of (fun y _ hy => hy.imp id (fun e => by simp [e]))
      · rw [decide_eq_true (by omega : ofV V x = -1)] at hn
        have eu : unitL V (x :: t) o = unitL V t o := by
          show (if _ then _ else _) = _
          rw [if_neg (by omega : ¬ 0 < ofV V x), if_neg (fun hh => v0 hh.1), if_neg v0]
        rw [scanC_no (fun hh => by rw [hn] at hh; simp at hh), hp, eu]
        exact (ih o m ht hm).of (fun y _ hy => hy.imp id (fun e => by simp [e]))
theorem getD_set_self (V : List Int) (k : Nat) (u : Int) (h : k < V.length) : (V.set k u).getD k 0 = u := by simp [h]
theorem getD_set_other (V : List Int) (k j : Nat) (u : Int) (h : k ≠ j) : (V.set k u).getD j 0 = V.getD j 0 := by simp [List.getElem?_set_ne h]
theorem ofV_set_self (V : List Int) (x : Int) (h0 : x ≠ 0) (h : x.natAbs < V.length) : ofV (setV V x) x = 1 := by
  unfold ofV setV
  rw [getD_set_self V _ _ h]
  split <;> omega
theorem ofV_set_other (V : List Int) (x y : Int) (h : x.natAbs ≠ y.natAbs) : ofV (setV V x) y = ofV V y := by
  unfold ofV setV
  rw [getD_set_other V _ _ _ h]
theorem Rep.set {n : Nat} {S V : List Int} (h : Rep n S V) {x : Int} (h0 : x ≠ 0) (hx : x.natAbs ≤ n) (hv : 0 ≤ ofV V x) : Rep n (S ++ [x]) (setV V x) where
  len := by rw [setV_length]; exact h.len
  zero := by
    unfold setV
    rw [getD_set_other V _ _ _ (by omega)]; exact h.zero
  small := fun v hv => by
    rcases List.mem_or_eq_of_mem_set hv with hv | rfl
    · exact h.small v hv
    · split <;> omega
  lit := fun y hy => by
    rcases List.mem_append.1 hy with hy | hy
    · exact h.lit y hy
    · rw [List.mem_singleton] at hy; omega
  iff := fun y y0 yn => by
    rw [List.mem_append, List.mem_singleton]
    by_cases e : x.natAbs = y.natAbs
    · rcases (by omega : y = x ∨ y = -x) with rfl | rfl
      · rw [ofV_set_self V y y0 (by have := h.len; omega)]
        simp
      · rw [ofV_neg _ _ h0, ofV_set_self V x h0 (by have := h.len; omega), h.iff _ y0 yn, ofV_neg _ _ h0]
        constructor
        · rintro (g | g) <;> omega
        · intro g; omega
    · rw [ofV_set_other V x y e, ← h.iff y y0 yn]
      constructor
      · rintro (g | g)
        · exact g
        · exact absurd (by rw [g]) e
      · exact .inl
theorem step_unit {n : Nat} {S V : List Int} (h : Rep n S V) (c : List Int) (hc : ∀ x ∈ c, x ≠ 0 ∧ x.natAbs ≤ n) :
    ((unitL V c 0).2 = false ∧ stepC S c = none) ∨ ((unitL V c 0).2 = true ∧ (unitL V c 0).1 = 0 ∧ stepC S c = some S) ∨
    ((unitL V c 0).2 = true ∧ (unitL V c 0).1 ≠ 0 ∧ (unitL V c 0).1 ∈ c ∧ stepC S c = some (S ++ [(unitL V c 0).1])) := by
  have hs := scan_unit h c 0 0 hc (.inl ⟨rfl, rfl⟩)
  unfold FitsC at hs
  unfold stepC
  split at hs
  · rename_i hh
    rw [hs, if_neg (fun g => by rcases hh with hh | hh; rw [g.1] at hh; cases hh; omega), if_neg (fun g => by rcases hh with hh | hh; rw [g.1] at hh; cases hh; omega)]
    exact .inr (.inl ⟨rfl, rfl, rfl⟩)
  · rename_i hh
    rw [not_or] at hh
    have hf : (scanC S c 0 false 0).2.1 = false := by simpa using hh.1
    obtain ⟨e, h2⟩ := hs
    rw [e]
    rcases h2 with ⟨m0, o0⟩ | ⟨m1, o1, ho⟩
    · rw [if_pos ⟨hf, m0⟩, o0]
      exact .inl ⟨rfl, rfl⟩
    · rw [if_neg (fun g => by omega), if_pos ⟨hf, m1⟩]
      refine .inr (.inr ⟨by simpa using o1, o1, ?_, rfl⟩)
      rcases ho with ho | ho
      · exact absurd ho o1
      · exact ho
theorem round_pass {n : Nat} : ∀ (LL : List (List Int)) (S V : List Int) (ag : Bool), Rep n S V → (∀ c ∈ LL, ∀ x ∈ c, x ≠ 0 ∧ x.natAbs ≤ n) →
    (passV LL V ag = none ∧ roundC LL S = none) ∨ (∃ S' V' ag', passV LL V ag = some (V', ag') ∧ roundC LL S = some S' ∧ Rep n S' V' ∧ zeros V' ≤ zeros V ∧ (ag = true → ag' = true) ∧ (ag' = false → S' = S ∧ V' = V) ∧ (ag = false → ag' = true → zeros V' < zeros V)) := by
  intro LL
  induction LL with
  | nil =>
    intro S V ag h _
    exact .inr ⟨S, V, ag, rfl, rfl, h, Nat.le_refl _, id, fun _ => ⟨rfl, rfl⟩, fun h1 h2 => by rw [h1] at h2; cases h2⟩
  | cons c t ih =>
    intro S V ag h hL
    have hc := hL c (by simp)
    have ht : ∀ c ∈ t, ∀ x ∈ c, x ≠ 0 ∧ x.natAbs ≤ n := fun c hc => hL c (by simp [hc])
    have hu := unitL_open V c 0 (fun h => absurd rfl h)
    unfold passV roundC
    rcases step_unit h c hc with ⟨h1, h2⟩ | ⟨h1, h2, h3⟩ | ⟨h1, h2, h3, h4⟩
    · rw [if_pos h1, h2]; exact .inl ⟨rfl, rfl⟩
    · rw [if_neg (by rw [h1]; simp), if_pos h2, h3]
      exact ih S V ag h ht
    · rw [if_neg (by rw [h1]; simp), if_neg h2, h4]
      obtain ⟨x0, xn⟩ := hc _ h3
      have hz := zeros_setV V _ (by have := h.len; omega) (hu h2).1
      have hR := h.set x0 xn (by rw [(hu h2).1]; omega)
      rcases ih (S ++ [(unitL V c 0).1]) (setV V (unitL V c 0).1) true hR ht with ⟨g1, g2⟩ | ⟨S', V', ag', g1, g2, g3, g4, g5, g6, g7⟩
      · exact .inl ⟨g1, g2⟩
      · refine .inr ⟨S', V', ag', g1, g2, g3, by omega, fun _ => g5 rfl, fun e => ?_, fun _ _ => by omega⟩
        rw [g5 rfl] at e; cases e
theorem zeros_pos {n : Nat} {S V : List Int} (h : Rep n S V) : 0 < zeros V := by
  unfold zeros
  apply List.countP_pos_iff.2
  have hl := h.len
  refine ⟨V[0]'(by omega), List.getElem_mem _, ?_⟩
  have := h.zero
  simp at this
  rw [List.getElem?_eq_getElem (by omega)] at this
  simpa using this
theorem rounds_still (LL : List (List Int)) (S : List Int) (h : roundC LL S = some S) : ∀ j, roundsC LL j S = some S := by
  intro j
  induction j with
  | zero => rfl
  | succ j ih => unfold roundsC; rw [h]; exact ih
theorem loop_rounds {n : Nat} (LL : List (List Int)) (hL : ∀ c ∈ LL, ∀ x ∈ c, x ≠ 0 ∧ x.natAbs ≤ n) : ∀ (j : Nat) (S V : List Int), Rep n S V → zeros V ≤ j →
    (loopV LL (j + 2) V = none ∧ roundsC LL j S = none) ∨ ∃ S' V', loopV LL (j + 2) V = some V' ∧ roundsC LL j S = some S' ∧ Rep n S' V' := by
  intro j
  induction j with
  | zero => intro S V h hz; have := zeros_pos h; omega
  | succ j ih =>
    intro S V h hz
    rcases round_pass LL S V false h hL with ⟨h1, h2⟩ | ⟨S', V', ag', g1, g2, g3, g4, g5, g6, g7⟩
    · left
      refine ⟨?_, ?_⟩
      · unfold loopV; rw [h1]
      · unfold roundsC; rw [h2]
    · cases ag' with
      | false =>
        obtain ⟨rfl, rfl⟩ := g6 rfl
        right
        refine ⟨S', V', ?_, ?_, h⟩
        · unfold loopV; rw [g1]
        · exact rounds_still LL S' g2 _
      | true =>
        have := g7 rfl rfl
        have e1 : loopV LL (j + 1 + 2) V = loopV LL (j + 2) V' := by
          conv => lhs; unfold loopV
          rw [g1]
        have e2 : roundsC LL (j + 1) S = roundsC LL j S' := by
          conv => lhs; unfold roundsC
          rw [g2]
        rw [e1, e2]
        exact ih S' V' g3 (by omega)
theorem tautB_iff (c : List Int) : tautB c = true ↔ ∃ x ∈ c, -x ∈ c := by
  unfold tautB
  rw [List.any_eq_true]
  constructor
  · rintro ⟨x, hx, h⟩; exact ⟨x, hx, (hasB_iff _ _).1 h⟩
  · rintro ⟨x, hx, h⟩; exact ⟨x, hx, (hasB_iff _ _).2 h⟩
theorem Rep.not_taut {n : Nat} {S V : List Int} (h : Rep n S V) : tautB S = false := by
  rw [← Bool.not_eq_true, tautB_iff]
  rintro ⟨x, hx, hy⟩
  obtain ⟨x0, x1, x2⟩ := h.lit x hx
  have g1 := (h.iff x x0 (by omega)).1 hx
  have g2 := (h.iff (-x) (by omega) (by omega)).1 hy
  rw [ofV_neg V x x0] at g2
  omega
theorem lits_rep {n : Nat} : ∀ (t P V : List Int), Rep n P V → (∀ x ∈ t, x ≠ 0 ∧ x.natAbs ≤ n) →
    (litsV t V = none ∧ tautB (P ++ t) = true) ∨ ∃ V', litsV t V = some V' ∧ Rep n (P ++ t) V' := by
  intro t
  induction t with
  | nil => intro P V h _; exact .inr ⟨V, rfl, by rw [List.append_nil]; exact h⟩
  | cons x t ih =>
    intro P V h ht
    obtain ⟨x0, xn⟩ := ht x (by simp)
    unfold litsV
    by_cases hv : ofV V x < 0
    · rw [if_pos hv]
      left
      refine ⟨rfl, (tautB_iff _).2 ⟨x, by simp, ?_⟩⟩
      have hh := h.val x
      rw [List.mem_append]
      exact .inl ((h.iff (-x) (by omega) (by omega)).2 (by rw [ofV_neg V x x0]; omega))
    · rw [if_neg hv]
      have e : P ++ x :: t = (P ++ [x]) ++ t := by simp
      rw [e]
      exact ih _ _ (h.set x0 xn (by omega)) (fun y hy => ht y (by simp [hy]))
theorem rep_start (n : Nat) : Rep n [] (List.replicate (n + 1) 0) where
  len := by simp
  zero := by simp
  small := fun v hv => by have := List.eq_of_mem_replicate hv; omega
  lit := fun x hx => by simp at hx
  iff := fun x x0 xn => by
    have : ofV (List.replicate (n + 1) 0) x = 0 := by
      unfold ofV
      have : (List.replicate (n + 1) (0 : Int)).getD x.natAbs 0 = 0 := by
        rw [List.getD_eq_getElem?_getD, List.getElem?_replicate]
        split <;> rfl
      rw [this]; split <;> rfl
    rw [this]; simp
theorem outTo_mem (V : List Int) : ∀ (k : Nat) (x : Int), x ∈ outTo V k ↔ ∃ j, j < k ∧ V.getD (j + 1) 0 ≠ 0 ∧ x = ((j + 1 : Nat) : Int) * V.getD (j + 1) 0 := by
  intro k
  induction k with
  | zero => intro x; simp [outTo]
  | succ k ih =>
    intro x
    unfold outTo
    rw [List.mem_append, ih x]
    constructor
    · rintro (⟨j, hj, h⟩ | h)
      · exact ⟨j, by omega, h⟩
      · split at h
        · simp at h
        · rw [List.mem_singleton] at h; exact ⟨k, by omega, by assumption, h⟩
    · rintro ⟨j, hj, h1, h2⟩
      by_cases e : j = k
      · subst e; right; rw [if_neg h1, List.mem_singleton]; exact h2
      · exact .inl ⟨j, by omega, h1, h2⟩
theorem mul_unit {k v : Int} (h : v = 1 ∨ v = -1) : k * v = k ∨ k * v = -k := by rcases h with rfl | rfl <;> omega
theorem outTo_sorted {n : Nat} {S V : List Int} (h : Rep n S V) : ∀ k, Sorted (outTo V k) := by
  have hv : ∀ j, V.getD j 0 ≠ 0 → V.getD j 0 = 1 ∨ V.getD j 0 = -1 := fun j h0 => by
    by_cases hk : j < V.length
    · have e : V.getD j 0 = V[j] := by simp [hk]
      have := h.small _ (List.getElem_mem hk)
      rw [← e] at this
      omega
    · exact absurd (by simp [List.getD, List.getElem?_eq_none (Nat.le_of_not_lt hk)]) h0
  intro k
  induction k with
  | zero => exact List.Pairwise.nil
  | succ k ih =>
    unfold outTo Sorted
    rw [List.pairwise_append]
    refine ⟨ih, ?_, ?_⟩
    · split
      · exact List.Pairwise.nil
      · exact List.pairwise_singleton _ _
    · intro a ha b hb
      obtain ⟨j, hj, h1, h2⟩ := (outTo_mem V k a).1 ha
      split at hb
      · simp at hb
      · rename_i h3
        rw [List.mem_singleton] at hb
        left
        unfold varI
        rcases mul_unit (k := ((j + 1 : Nat) : Int)) (hv _ h1) with e1 | e1 <;> rcases mul_unit (k := ((k + 1 : Nat) : Int)) (hv _ h3) with e2 | e2 <;> rw [h2, hb, e1, e2] <;> omega
theorem out_norm {n : Nat} {S V : List Int} (h : Rep n S V) : outTo V n = normL S := by
  refine normL_of (outTo_sorted h n) (fun x => ?_)
  rw [outTo_mem]
  have hv : ∀ j, j < n + 1 → -1 ≤ V.getD j 0 ∧ V.getD j 0 ≤ 1 := fun j hj => by
    have hl := h.len
    have e : V.getD j 0 = V[j]'(by omega) := by simp [show j < V.length by omega]
    rw [e]; exact h.small _ (List.getElem_mem _)
  constructor
  · rintro ⟨j, hj, h1, h2⟩
    have h3 := hv (j + 1) (by omega)
    have hx : x = ((j + 1 : Nat) : Int) ∧ V.getD (j + 1) 0 = 1 ∨ x = -((j + 1 : Nat) : Int) ∧ V.getD (j + 1) 0 = -1 := by
      rcases (by omega : V.getD (j + 1) 0 = 1 ∨ V.getD (j + 1) 0 = -1) with e | e
      · rw [e] at h2; exact .inl ⟨by omega, e⟩
      · rw [e] at h2; exact .inr ⟨by omega, e⟩
    refine (h.iff x (by omega) (by omega)).2 ?_
    unfold ofV
    rcases hx with ⟨e1, e2⟩ | ⟨e1, e2⟩
    · rw [if_neg (by omega), show x.natAbs = j + 1 by omega, e2]
    · rw [if_pos (by omega), show x.natAbs = j + 1 by omega, e2]; rfl
  · intro hx
    obtain ⟨x0, x1, x2⟩ := h.lit x hx
    have g := (h.iff x x0 (by omega)).1 hx
    unfold ofV at g
    obtain ⟨j, hj⟩ : ∃ j, x.natAbs = j + 1 := ⟨x.natAbs - 1, by omega⟩
    rw [hj] at g
    refine ⟨j, by omega, ?_, ?_⟩
    · split at g <;> omega
    · split at g
      · rw [show V.getD (j + 1) 0 = -1 by omega]; omega
      · rw [g]; omega
def rspreadV (n : Nat) (LL : List (List Int)) (lits : List Int) : Option (List Int) := if tautB lits = true then none else (roundsC LL (n + 1) lits).map normL
theorem rspread_eq (n : Nat) (LL : List (List Int)) (lits : List Int) (hL : ∀ c ∈ LL, ∀ x ∈ c, x ≠ 0 ∧ x.natAbs ≤ n) (hl : ∀ x ∈ lits, x ≠ 0 ∧ x.natAbs ≤ n) :
    rspreadV n LL lits = (spreadV n LL lits).map fun V => outTo V n := by
  unfold rspreadV spreadV
  rcases lits_rep lits [] _ (rep_start n) hl with ⟨h1, h2⟩ | ⟨V', h1, h2⟩
  · rw [h1, if_pos (by simpa using h2)]; rfl
  · rw [List.nil_append] at h2
    rw [h1, if_neg (by rw [h2.not_taut]; simp)]
    have hz := zeros_le V'
    rcases loop_rounds LL hL (n + 1) lits V' h2 (by have := h2.len; omega) with ⟨g1, g2⟩ | ⟨S', V2, g1, g2, g3⟩
    · rw [g2]
      show none = Option.map _ (loopV LL (n + 1 + 2) V')
      rw [g1]; rfl
    · rw [g2]
      show some (normL S') = Option.map _ (loopV LL (n + 1 + 2) V')
      rw [g1]
      show some (normL S') = some (outTo V2 n)
      rw [out_norm g3]
end Go.Proofs.Yteimfcokobdldaa
