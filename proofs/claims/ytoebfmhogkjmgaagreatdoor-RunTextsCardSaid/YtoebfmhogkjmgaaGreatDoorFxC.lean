/- Regions in whatever order, and code, on what the slots and variables hold. No program in sight. -/
import Derived.Test.YtoebfmhogkjmgaaGreatDoorFxB
namespace Go.Proofs.YtoebfmhogkjmgaaGreatDoor.Fx
open Go.RowKit
set_option linter.unusedVariables false
set_option linter.unusedSimpArgs false
section
variable {P : Program} {ops : Array Oper} {Q : Exit → Act → World → Prop}
structure AnyInv (ops : Array Oper) (listed : Array Bool) (R : List (Nat × Kd)) : Prop where
  sz : listed.size = ops.size
  un : ∀ j, j < ops.size → (listed.getD j true = false ↔ ∃ k, (j, k) ∈ R)
  pairs : pairsOk ops (maskN ops.toList 0 0) R = true
  self : ∀ x ∈ R, selfOk ops x = true
  closed : Closed ops (fun j => listed.getD j false = true)
theorem getD_two {listed : Array Bool} {j : Nat} (h : j < listed.size) : listed.getD j false = listed.getD j true := by
  simp [h]
theorem pairs_front {ms : Nat} : ∀ (R1 R2 : List (Nat × Kd)) (x : Nat × Kd), pairsOk ops ms (R1 ++ x :: R2) = true → (∀ y ∈ R1, pairOk ops ms y x = true) ∧ (∀ y ∈ R2, pairOk ops ms x y = true) ∧ pairsOk ops ms (R1 ++ R2) = true := by
  intro R1
  induction R1 with
  | nil =>
    intro R2 x h
    simp only [List.nil_append, pairsOk, Bool.and_eq_true, List.all_eq_true] at h
    exact ⟨fun y hy => (by cases hy), h.1, h.2⟩
  | cons z t ih =>
    intro R2 x h
    simp only [List.cons_append, pairsOk, Bool.and_eq_true, List.all_eq_true] at h
    obtain ⟨h1, h2⟩ := h
    obtain ⟨i1, i2, i3⟩ := ih R2 x h2
    refine ⟨fun y hy => ?_, i2, ?_⟩
    · rcases List.mem_cons.1 hy with rfl | hy
      · exact h1 x (by simp)
      · exact i1 y hy
    · simp only [List.cons_append, pairsOk, Bool.and_eq_true, List.all_eq_true]
      refine ⟨fun y hy => h1 y ?_, i3⟩
      rcases List.mem_append.1 hy with hy | hy
      · exact List.mem_append_left _ hy
      · exact List.mem_append_right _ (List.mem_cons_of_mem _ hy)
theorem pairOk_ne {ms : Nat} {x y : Nat × Kd} (h : pairOk ops ms x y = true) : x.1 ≠ y.1 := by
  unfold pairOk at h
  split at h
  · simp only [Bool.and_eq_true, bne_iff_ne] at h
    exact h.1.1
  · cases h
theorem pairOk_edge {ms : Nat} {x y : Nat × Kd} (h : pairOk ops ms x y = true) {o : Oper} (ho : ops[x.1]? = some o) : ∀ e ∈ o.after, Region.binds .any e = true → e.on ≠ y.1 := by
  intro e he hb hc
  unfold pairOk at h
  rw [ho] at h
  split at h
  · rename_i ox oi h1 h2
    injection h1 with h1; subst h1
    simp only [Bool.and_eq_true, Bool.not_eq_true'] at h
    have := h.1.2
    rw [Array.any_eq_false'] at this
    exact this e he (by simp [hb, hc])
  · cases h
theorem self_edge {x : Nat × Kd} (h : selfOk ops x = true) : ∃ o, ops[x.1]? = some o ∧ ∀ e ∈ o.after, Region.binds .any e = true → e.on ≠ x.1 ∧ e.on < ops.size := by
  unfold selfOk at h
  split at h
  · rename_i o ho
    refine ⟨o, ho, fun e he hb => ?_⟩
    have := Array.all_eq_true_iff_forall_mem.1 h e he
    simp only [hb, Bool.not_true, Bool.false_or, Bool.and_eq_true, bne_iff_ne, decide_eq_true_eq] at this
    exact this
  · cases h
theorem AnyInv.head {listed : Array Bool} {x : Nat × Kd} {R : List (Nat × Kd)} (h : AnyInv ops listed (x :: R)) : x.1 ∈ Region.ready .any ops listed := by
  obtain ⟨o, ho, hs⟩ := self_edge (h.self x List.mem_cons_self)
  have hp := h.pairs
  simp only [pairsOk, Bool.and_eq_true, List.all_eq_true] at hp
  have hlt : x.1 < ops.size := (Array.getElem?_eq_some_iff.1 ho).1
  rw [mem_ready]
  refine ⟨(h.un _ hlt).2 ⟨x.2, List.mem_cons_self⟩, o, ho, fun e he hb => ?_⟩
  obtain ⟨e1, e2⟩ := hs e he hb
  rw [getD_two (by rw [h.sz]; exact e2)]
  apply Classical.byContradiction
  intro hn
  have hn' : listed.getD e.on true = false := by simpa using hn
  obtain ⟨k, hk⟩ := (h.un _ e2).1 hn'
  rcases List.mem_cons.1 hk with hk | hk
  · exact e1 (by rw [← hk])
  · exact pairOk_edge (hp.1 _ hk) ho e he hb rfl
theorem AnyInv.step {listed : Array Bool} {R1 R2 : List (Nat × Kd)} {i : Nat} {k : Kd} (h : AnyInv ops listed (R1 ++ (i, k) :: R2)) (hr : i ∈ Region.ready .any ops listed) : AnyInv ops (listed.setIfInBounds i true) (R1 ++ R2) := by
  obtain ⟨p1, p2, p3⟩ := pairs_front R1 R2 (i, k) h.pairs
  obtain ⟨h0, o, ho, hall⟩ := mem_ready.1 hr
  have hlt : i < ops.size := (Array.getElem?_eq_some_iff.1 ho).1
  refine ⟨by simp [h.sz], fun j hj => ?_, p3, fun x hx => h.self x ?_, fun j hj o' ho' e he hb => ?_⟩
  · by_cases hij : i = j
    · subst hij
      constructor
      · intro e
        rw [Array.getD_eq_getD_getElem?, Array.getElem?_setIfInBounds_self_of_lt (by rw [h.sz]; exact hlt)] at e
        cases e
      · rintro ⟨k', hk'⟩
        rcases List.mem_append.1 hk' with hk' | hk'
        · exact (pairOk_ne (p1 (i, k') hk') rfl).elim
        · exact (pairOk_ne (p2 (i, k') hk') rfl).elim
    · rw [getD_set_ne true hij, h.un j hj]
      constructor
      · rintro ⟨k', hk'⟩
        refine ⟨k', ?_⟩
        rcases List.mem_append.1 hk' with hk' | hk'
        · exact List.mem_append_left _ hk'
        · rcases List.mem_cons.1 hk' with hk' | hk'
          · injection hk' with e _; exact absurd e.symm hij
          · exact List.mem_append_right _ hk'
      · rintro ⟨k', hk'⟩
        refine ⟨k', ?_⟩
        rcases List.mem_append.1 hk' with hk' | hk'
        · exact List.mem_append_left _ hk'
        · exact List.mem_append_right _ (List.mem_cons_of_mem _ hk')
  · rcases List.mem_append.1 hx with hx | hx
    · exact List.mem_append_left _ hx
    · exact List.mem_append_right _ (List.mem_cons_of_mem _ hx)
  · by_cases hij : i = j
    · subst hij
      rw [ho] at ho'; injection ho' with ho'; subst ho'
      exact getD_set_true (hall e he hb)
    · have hj' : (listed.setIfInBounds i true).getD j false = true := hj
      rw [getD_set_ne false hij] at hj'
      exact getD_set_true (h.closed j hj' o' ho' e he hb)
/-- in whatever order -/
theorem run_any {n : Nat} (hd : dstsOk n ops = true) {E : Ent} {K : ASt → Prop} (hKs : ∀ s s', Same s s' → K s → K s') (hK : ∀ s a w, Told n E s a w → K s → Q .normal a w) : ∀ (fuel : Nat) (listed : Array Bool) (R : List (Nat × Kd)) (s : ASt) (a : Act) (w : World),
    R.length ≤ fuel → AnyInv ops listed R → Told n E s a w → RunL P ops R s K → wpAny P .any ops Q fuel listed a w := by
  intro fuel
  induction fuel with
  | zero =>
    intro listed R s a w hf hI h hr
    have hR : R = [] := List.length_eq_zero_iff.1 (by omega)
    subst hR
    refine ⟨?_, hK s a w h hr⟩
    cases hc : Region.ready .any ops listed with
    | nil => rfl
    | cons i t =>
      have hm : i ∈ Region.ready .any ops listed := by rw [hc]; exact List.mem_cons_self
      obtain ⟨h0, o, ho, _⟩ := mem_ready.1 hm
      obtain ⟨k, hk⟩ := (hI.un i (Array.getElem?_eq_some_iff.1 ho).1).1 h0
      cases hk
  | succ fuel ih =>
    intro listed R s a w hf hI h hr
    refine ⟨fun h0 => ?_, fun i hi => ?_⟩
    · cases R with
      | nil => exact hK s a w h hr
      | cons x R =>
        have := hI.head
        rw [h0] at this; cases this
    · obtain ⟨h0, o, ho, hall⟩ := mem_ready.1 hi
      obtain ⟨k, hk⟩ := (hI.un i (Array.getElem?_eq_some_iff.1 ho).1).1 h0
      obtain ⟨R1, R2, rfl⟩ := List.append_of_mem hk
      obtain ⟨p1, p2, p3⟩ := pairs_front R1 R2 (i, k) hI.pairs
      have hm : ∀ x ∈ R1, bitN (maskN ops.toList 0 0) i x.1 = false := by
        intro x hx
        apply Classical.byContradiction
        intro hb
        have hb' : bitN (maskN ops.toList 0 0) i x.1 = true := by simpa using hb
        unfold bitN at hb'
        rw [Bool.and_eq_true] at hb'
        have hl := maskN_spec hI.closed ops.toList 0 0 (fun j => by simp) (fun j _ k _ hk => by simp at hk) i (fun o' ho' e he hbi => by
          rw [ho] at ho'; injection ho' with ho'; subst ho'
          exact hall e he hbi) x.1 (of_decide_eq_true hb'.1) hb'.2
        obtain ⟨ox, hox, _⟩ := self_edge (hI.self x (List.mem_append_left _ hx))
        have hlt : x.1 < ops.size := (Array.getElem?_eq_some_iff.1 hox).1
        have := (hI.un x.1 hlt).2 ⟨x.2, List.mem_append_left _ hx⟩
        rw [getD_two (by rw [hI.sz]; exact hlt), this] at hl
        cases hl
      have hr2 := RunL.front hKs (ms := maskN ops.toList 0 0) R1 R2 s p1 hm hr
      have hI2 := hI.step hi
      obtain ⟨o2, ho2, hr2⟩ := hr2
      rw [ho] at ho2; injection ho2 with ho2; subst ho2
      unfold wpOp
      rw [ho]
      simp only
      have hlen : (R1 ++ R2).length ≤ fuel := by simp at hf ⊢; omega
      obtain ⟨c, _, h2⟩ := h.ex
      rcases hr2 with ⟨hw, v, H', hs, hr2⟩ | ⟨hw, hr2⟩
      · rw [wanted1_rep h2 hw, if_pos rfl]
        exact .inl (told_step (dsts_spec hd ho) h hs.step (fun a' w' h' => ih _ _ _ a' w' hlen hI2 h' hr2))
      · rw [wanted1_rep h2 hw, if_neg (by simp)]
        exact ih _ _ _ _ _ hlen hI2 (told_skip (dsts_spec hd ho) h) hr2
end
theorem Conc.drew {E : Ent} {c : Cx} {H : AHeap} {w w' : World} (hC : Conc E c H w) (hh : w'.heap = w.heap) (h1 : w'.os = w.os) (h2 : w'.tape = w.tape) (h3 : w'.output = w.output) : Conc E c H w' ∧ Later c H w c H w' :=
  hC.grew ⟨h1, h2, h3, by rw [hh]; exact Nat.le_refl _, fun b _ => by rw [hh]⟩ c.A (fun _ _ h => h) (fun _ _ h => .inl h)
theorem Told.drew {n : Nat} {E : Ent} {s : ASt} {a : Act} {w : World} (h : Told n E s a w) : Told n E s a { w with drawn := w.drawn + 1 } := by
  obtain ⟨⟨c, h1, h2⟩, h3, h4⟩ := h
  obtain ⟨g1, g2⟩ := h1.drew (w' := { w with drawn := w.drawn + 1 }) rfl rfl rfl rfl
  exact ⟨⟨c, g1, fun t => (h2 t).later g2⟩, h3, h4⟩
inductive AEx where
  | normal
  | exit (id : Nat)
  | ret
  deriving DecidableEq
def lift (n : Nat) (E : Ent) (Q : AEx → ASt → Prop) : Exit → Act → World → Prop
  | .normal, a, w => ∃ s, Told n E s a w ∧ Q .normal s
  | .exit id, a, w => ∃ s, Told n E s a w ∧ Q (.exit id) s
  | .ret, a, w => ∃ s, Told n E s a w ∧ Q .ret s
  | _, _, _ => False
/-- what a piece of code comes to -/
def awp (P : Program) (n : Nat) (c : Code) (Q : AEx → ASt → Prop) (s : ASt) : Prop := ∀ E a w, Told n E s a w → c.wp P (lift n E Q) a w
section
variable {P : Program} {n : Nat} {Q : AEx → ASt → Prop} {s : ASt}
theorem awp_skip (h : Q .normal s) : awp P n .skip Q s := fun E a w ht => wp_skip ⟨s, ht, h⟩
theorem awp_ret (h : Q .ret s) : awp P n .ret Q s := fun E a w ht => wp_ret ⟨s, ht, h⟩
theorem awp_exit {id : Nat} (h : Q (.exit id) s) : awp P n (.exit id) Q s := fun E a w ht => wp_exit ⟨s, ht, h⟩
def thenA (K : ASt → Prop) (Q : AEx → ASt → Prop) : AEx → ASt → Prop
  | .normal, s => K s
  | e, s => Q e s
theorem awp_seq {x y : Code} (h : awp P n x (thenA (awp P n y Q) Q) s) : awp P n (.seq x y) Q s := fun E a w ht =>
  wp_seq (Code.wp_mono (fun e a w hq => by
    cases e <;> first | exact hq.elim | skip
    · obtain ⟨s', h1, h2⟩ := hq; exact h2 E a w h1
    · exact hq
    · exact hq) (h E a w ht))
def inBlk (id : Nat) (Q : AEx → ASt → Prop) : AEx → ASt → Prop
  | .exit id', s => if id' = id then Q .normal s else Q (.exit id') s
  | e, s => Q e s
theorem awp_block {id : Nat} {c : Code} (h : awp P n c (inBlk id Q) s) : awp P n (.block id c) Q s := fun E a w ht =>
  wp_block (Code.wp_mono (fun e a w hq => by
    cases e <;> first | exact hq.elim | skip
    · exact hq
    · rename_i id'
      obtain ⟨s', h1, h2⟩ := hq
      have h3 : if id' = id then Q .normal s' else Q (.exit id') s' := h2
      show if id' = id then _ else _
      split
      · rename_i e; rw [if_pos e] at h3; exact ⟨s', h1, h3⟩
      · rename_i e; rw [if_neg e] at h3; exact ⟨s', h1, h3⟩
    · exact hq) (h E a w ht))
theorem awp_cond {c : Operand} {x y : Code} {b : Bool} (hc : ev s.sl c = .c (.t (.v (.bool b)))) (h1 : b = true → awp P n x Q s) (h2 : b = false → awp P n y Q s) : awp P n (.cond c x y) Q s := fun E a w ht => by
  obtain ⟨⟨cx, g1, g2⟩, g3, g4⟩ := ht
  have hv := ev_rep g2 c
  rw [hc] at hv
  have e : a.eval c = .bool b := by
    generalize a.eval c = q at hv
    cases hv with
    | c hv => cases hv with
      | t hv => cases hv; rfl
  refine wp_cond_split e (fun hb => h1 hb E a w ⟨⟨cx, g1, g2⟩, g3, g4⟩) (fun hb => h2 hb E a w ⟨⟨cx, g1, g2⟩, g3, g4⟩)
theorem awp_any2 {c : Operand} {x y : Code} (hc : ev s.sl c = .c .ab) (h1 : awp P n x Q s) (h2 : awp P n y Q s) : awp P n (.cond c x y) Q s := fun E a w ht => by
  obtain ⟨⟨cx, g1, g2⟩, g3, g4⟩ := ht
  have hv := ev_rep g2 c
  rw [hc] at hv
  have e : ∃ b, a.eval c = .bool b := by
    generalize a.eval c = q at hv
    cases hv with
    | c hv => cases hv with
      | ab b => exact ⟨b, rfl⟩
  obtain ⟨b, e⟩ := e
  exact wp_cond_split e (fun hb => h1 E a w ⟨⟨cx, g1, g2⟩, g3, g4⟩) (fun hb => h2 E a w ⟨⟨cx, g1, g2⟩, g3, g4⟩)
theorem exists_min {p : Nat → Prop} (h : ∃ n, p n) : ∃ n, p n ∧ ∀ m, p m → n ≤ m := by
  obtain ⟨n, hn⟩ := h
  induction n using Nat.strongRecOn with
  | _ n ih =>
    by_cases hx : ∃ m, m < n ∧ p m
    · obtain ⟨m, h1, h2⟩ := hx; exact ih m h1 h2
    · exact ⟨n, hn, fun m hm => Nat.le_of_not_lt (fun hlt => hx ⟨m, hlt, hm⟩)⟩
open Classical in
noncomputable def leastOf (p : Nat → Prop) : Nat := if h : ∃ n, p n then Classical.choose (exists_min h) else 0
theorem leastOf_spec {p : Nat → Prop} (h : ∃ n, p n) : p (leastOf p) ∧ ∀ m, p m → leastOf p ≤ m := by
  unfold leastOf
  rw [dif_pos h]
  exact Classical.choose_spec (exists_min h)
theorem awp_loop {c : Code} (I : ASt → Prop) (μ : ASt → Nat) (h0 : I s) (hr : ∀ s, I s → awp P n c (thenA (fun s' => I s' ∧ μ s' < μ s) Q) s) : awp P n (.loop c) Q s := fun E a w ht => by
  let p : Act → World → Nat → Prop := fun a w m => ∃ s, Told n E s a w ∧ I s ∧ μ s = m
  refine wp_loop (fun a w => ∃ m, p a w m) (fun a w => leastOf (p a w)) ⟨μ s, s, ht, h0, rfl⟩ (fun a w hI => ?_)
  obtain ⟨⟨s1, g1, g2, g3⟩, _⟩ := leastOf_spec hI
  refine Code.wp_mono (fun e a' w' hq => ?_) (hr s1 g2 E a w g1)
  cases e <;> first | exact hq.elim | skip
  · obtain ⟨s2, k1, k2, k3⟩ := hq
    refine ⟨⟨μ s2, s2, k1, k2, rfl⟩, ?_⟩
    have h2 := (leastOf_spec (p := p a' w') ⟨μ s2, s2, k1, k2, rfl⟩).2 (μ s2) ⟨s2, k1, k2, rfl⟩
    rw [← g3]
    exact Nat.lt_of_le_of_lt h2 k3
  · exact hq
  · exact hq
/-- a state told with less -/
def Weak (s s' : ASt) : Prop := ∀ n E a w, Told n E s a w → Told n E s' a w
theorem awp_weak {c : Code} {s' : ASt} (hw : Weak s s') (h : awp P n c Q s') : awp P n c Q s := fun E a w ht => h E a w (hw n E a w ht)
theorem awp_mono {c : Code} {Q' : AEx → ASt → Prop} (h : awp P n c Q s) (hq : ∀ e s, Q e s → Q' e s) : awp P n c Q' s := fun E a w ht =>
  Code.wp_mono (fun e a w h => by
    cases e <;> first | exact h.elim | skip
    all_goals (obtain ⟨s', h1, h2⟩ := h; exact ⟨s', h1, hq _ _ h2⟩)) (h E a w ht)
theorem awp_region {id : Nat} {ops : List Oper} (kinds : List (Nat × Kd)) (ho : kinds.map (·.1) = List.range ops.length) (hd : dstsOk n ops.toArray = true) (h : RunL P ops.toArray kinds s (fun s => Q .normal s)) : awp P n (.region id ops.toArray false) Q s := fun E a w ht =>
  wp_region (by
    have := run_text (P := P) (ops := ops.toArray) (Q := lift n E Q) hd (E := E) (K := fun s => Q .normal s) (fun s a w h1 h2 => ⟨s, h1, h2⟩) kinds s a w ht h
    rw [ho] at this
    simpa using this)
theorem awp_region_any {id : Nat} {ops : List Oper} (order : List (Nat × Kd)) (hm : P.follows .mixedOrders = true) (hl : order.length = ops.length) (hc : calm ops.toArray order = true) (hd : dstsOk n ops.toArray = true) (h : RunL P ops.toArray order s (fun s => Q .normal s)) : awp P n (.region id ops.toArray true) Q s := fun E a w ht =>
  wp_region_any hm (by
    have hpost : ∀ s a w, Told n E s a w → (fun s => ∃ s', Same s' s ∧ Q .normal s') s → lift n E Q .normal a w := fun s a w h1 ⟨s', h2, h3⟩ => ⟨s', h1.same ⟨fun t => (h2.1 t).symm, h2.2.symm⟩, h3⟩
    have hmono : ∀ (L : List (Nat × Kd)) (s : ASt) (K K' : ASt → Prop), (∀ s, K s → K' s) → RunL P ops.toArray L s K → RunL P ops.toArray L s K' := by
      intro L
      induction L with
      | nil => intro s K K' hk h; exact hk s h
      | cons x r ih =>
        obtain ⟨i, k⟩ := x
        intro s K K' hk h
        obtain ⟨o, ho, h⟩ := h
        refine ⟨o, ho, ?_⟩
        rcases h with ⟨hw, v, H', hs, h⟩ | ⟨hw, h⟩
        · exact .inl ⟨hw, v, H', hs, ih _ _ _ hk h⟩
        · exact .inr ⟨hw, ih _ _ _ hk h⟩
    unfold calm at hc
    rw [forceN_eq] at hc
    simp only [Bool.and_eq_true, List.all_eq_true] at hc
    obtain ⟨⟨c1, c2⟩, c3⟩ := hc
    refine run_any (K := fun s => ∃ s', Same s' s ∧ Q .normal s') hd (fun s s' h1 ⟨s2, h2, h3⟩ => ⟨s2, ⟨fun t => (h2.1 t).trans (h1.1 t), h2.2.trans h1.2⟩, h3⟩) hpost _ _ order s a _ (by simp [hl]) ⟨by simp, fun j hj => ?_, c1, c3, fun j hj => ?_⟩ ht.drew (hmono order s _ _ (fun s h => ⟨s, Same.refl s, h⟩) h)
    · constructor
      · intro _
        have := c2 j (by simpa using hj)
        rw [List.any_eq_true] at this
        obtain ⟨⟨y, k⟩, hy, e⟩ := this
        have e' : y = j := by simpa using e
        subst e'
        exact ⟨k, hy⟩
      · intro _; simp at hj; simp [hj]
    · exfalso
      by_cases hlt : j < ops.length
      · simp [hlt] at hj
      · simp [hlt] at hj)
end
end Go.Proofs.YtoebfmhogkjmgaaGreatDoor.Fx
