/- What is true by spreading is so in each model; rows of rows of the call's own. -/
import Derived.Test.YteimfcokobdldaaCnAG
namespace Go.Proofs.Yteimfcokobdldaa
open Go.RowKit Go.ChangeShapes Go.WideShapes Go.Deep
set_option linter.unusedVariables false
/-- what a model makes of what variables are -/
def SatV (M : List Bool) (V : List Int) : Prop := ∀ x : Int, x ≠ 0 → ofV V x = 1 → trueB M x = true
theorem satV_zero (M : List Bool) (n : Nat) : SatV M (List.replicate (n + 1) 0) := by
  intro x x0 h
  exfalso
  have : ofV (List.replicate (n + 1) 0) x = 0 := by
    unfold ofV
    have : (List.replicate (n + 1) (0 : Int)).getD x.natAbs 0 = 0 := by
      rw [List.getD_eq_getElem?_getD, List.getElem?_replicate]
      split <;> rfl
    rw [this]; split <;> rfl
  omega
theorem SatV.set {M : List Bool} {V : List Int} (h : SatV M V) {x : Int} (x0 : x ≠ 0) (hx : x.natAbs < V.length) (ht : trueB M x = true) : SatV M (setV V x) := by
  intro y y0 hy
  by_cases e : x.natAbs = y.natAbs
  · rcases (by omega : y = x ∨ y = -x) with rfl | rfl
    · exact ht
    · rw [ofV_neg _ _ x0, ofV_set_self V x x0 hx] at hy; omega
  · rw [ofV_set_other V x y e] at hy
    exact h y y0 hy
theorem SatV.false {M : List Bool} {V : List Int} (h : SatV M V) {x : Int} (x0 : x ≠ 0) (hv : ofV V x = -1) : trueB M x = false := by
  have := h (-x) (by omega) (by rw [ofV_neg V x x0]; omega)
  have h2 := trueB_neg M (-x) (by omega) this
  rwa [Int.neg_neg] at h2
def SmallV (V : List Int) : Prop := ∀ v ∈ V, -1 ≤ v ∧ v ≤ 1
theorem SmallV.of {V : List Int} (h : SmallV V) (x : Int) : -1 ≤ ofV V x ∧ ofV V x ≤ 1 := by
  have hv : -1 ≤ V.getD x.natAbs 0 ∧ V.getD x.natAbs 0 ≤ 1 := by
    by_cases hk : x.natAbs < V.length
    · have e : V.getD x.natAbs 0 = V[x.natAbs] := by simp [hk]
      rw [e]; exact h _ (List.getElem_mem hk)
    · simp [List.getD, List.getElem?_eq_none (Nat.le_of_not_lt hk)]
  unfold ofV
  split <;> omega
theorem SmallV.set {V : List Int} (h : SmallV V) (x : Int) : SmallV (setV V x) := fun v hv => by
  rcases List.mem_or_eq_of_mem_set hv with hv | rfl
  · exact h v hv
  · split <;> omega
theorem unitL_sound {M : List Bool} {V : List Int} (h : SatV M V) (hs : SmallV V) : ∀ (c : List Int) (last : Int), (∀ x ∈ c, x ≠ 0) → ((∃ x ∈ c, trueB M x = true) ∨ (last ≠ 0 ∧ trueB M last = true)) →
    (unitL V c last).2 = true ∧ ((unitL V c last).1 ≠ 0 → trueB M (unitL V c last).1 = true) := by
  intro c
  induction c with
  | nil =>
    intro last _ hp
    rcases hp with ⟨x, hx, _⟩ | ⟨h0, ht⟩
    · simp at hx
    · exact ⟨by show (last != 0) = true; simpa using h0, fun _ => ht⟩
  | cons x t ih =>
    intro last hc hp
    have x0 := hc x (by simp)
    have ht : ∀ y ∈ t, y ≠ 0 := fun y hy => hc y (by simp [hy])
    have hv := hs.of x
    unfold unitL
    split
    · exact ⟨rfl, fun g => absurd rfl g⟩
    · split
      · exact ⟨rfl, fun g => absurd rfl g⟩
      · rename_i h1 h2
        split
        · rename_i h3
          refine ih x ht ?_
          rcases hp with ⟨y, hy, hyt⟩ | ⟨l0, hl⟩
          · rcases List.mem_cons.1 hy with rfl | hy
            · exact .inr ⟨x0, hyt⟩
            · exact .inl ⟨y, hy, hyt⟩
          · right
            have e : x = last := Classical.byContradiction fun hne => h2 ⟨h3, l0, hne⟩
            rw [e]; exact ⟨l0, hl⟩
        · rename_i h3
          have hf := h.false x0 (by omega)
          refine ih last ht ?_
          rcases hp with ⟨y, hy, hyt⟩ | hl
          · rcases List.mem_cons.1 hy with rfl | hy
            · rw [hf] at hyt; cases hyt
            · exact .inl ⟨y, hy, hyt⟩
          · exact .inr hl
theorem passV_sound {M : List Bool} {n : Nat} : ∀ (LL : List (List Int)) (V : List Int) (ag : Bool), SatV M V → SmallV V → V.length = n + 1 → (∀ c ∈ LL, ∀ x ∈ c, x ≠ 0 ∧ x.natAbs ≤ n) → holdsB LL M = true →
    ∃ V' ag', passV LL V ag = some (V', ag') ∧ SatV M V' ∧ SmallV V' ∧ V'.length = n + 1 := by
  intro LL
  induction LL with
  | nil => intro V ag h hs hl _ _; exact ⟨V, ag, rfl, h, hs, hl⟩
  | cons c t ih =>
    intro V ag h hs hl hL hM
    have hM' : c.any (trueB M) = true ∧ holdsB t M = true := by
      unfold holdsB at hM ⊢
      rw [List.all_cons, Bool.and_eq_true] at hM; exact hM
    have hc := hL c (by simp)
    have ht : ∀ c ∈ t, ∀ x ∈ c, x ≠ 0 ∧ x.natAbs ≤ n := fun c hc => hL c (by simp [hc])
    obtain ⟨h1, h2⟩ := unitL_sound h hs c 0 (fun x hx => (hc x hx).1) (.inl (List.any_eq_true.1 hM'.1))
    unfold passV
    rw [if_neg (by rw [h1]; simp)]
    by_cases h3 : (unitL V c 0).1 = 0
    · rw [if_pos h3]; exact ih V ag h hs hl ht hM'.2
    · rw [if_neg h3]
      have hu := unitL_open V c 0 (fun h => absurd rfl h)
      have hmem : (unitL V c 0).1 ∈ c := by
        rcases (hu h3).2 with e | e
        · exact absurd e h3
        · exact e
      refine ih _ true (h.set h3 (by have := hc _ hmem; omega) (h2 h3)) (hs.set _) (by rw [setV_length]; exact hl) ht hM'.2
theorem loopV_sound {M : List Bool} {n : Nat} (LL : List (List Int)) (hL : ∀ c ∈ LL, ∀ x ∈ c, x ≠ 0 ∧ x.natAbs ≤ n) (hM : holdsB LL M = true) : ∀ (k : Nat) (V : List Int), SatV M V → SmallV V → V.length = n + 1 →
    ∃ V', loopV LL k V = some V' ∧ SatV M V' ∧ SmallV V' ∧ V'.length = n + 1 := by
  intro k
  induction k with
  | zero => intro V h hs hl; exact ⟨V, rfl, h, hs, hl⟩
  | succ k ih =>
    intro V h hs hl
    obtain ⟨V', ag', h1, h2, h3, h4⟩ := passV_sound LL V false h hs hl hL hM
    unfold loopV
    rw [h1]
    cases ag' with
    | false => exact ⟨V', rfl, h2, h3, h4⟩
    | true => exact ih V' h2 h3 h4
theorem litsV_sound {M : List Bool} {n : Nat} : ∀ (t V : List Int), SatV M V → SmallV V → V.length = n + 1 → (∀ x ∈ t, x ≠ 0 ∧ x.natAbs ≤ n) → (∀ x ∈ t, trueB M x = true) →
    ∃ V', litsV t V = some V' ∧ SatV M V' ∧ SmallV V' ∧ V'.length = n + 1 := by
  intro t
  induction t with
  | nil => intro V h hs hl _ _; exact ⟨V, rfl, h, hs, hl⟩
  | cons x t ih =>
    intro V h hs hl hL hM
    obtain ⟨x0, xn⟩ := hL x (by simp)
    unfold litsV
    have hv := hs.of x
    by_cases hneg : ofV V x < 0
    · have := h.false x0 (by omega)
      rw [hM x (by simp)] at this; cases this
    · rw [if_neg hneg]
      exact ih _ (h.set x0 (by omega) (hM x (by simp))) (hs.set x) (by rw [setV_length]; exact hl) (fun y hy => hL y (by simp [hy])) (fun y hy => hM y (by simp [hy]))
theorem spreadV_sound {M : List Bool} {n : Nat} {LL : List (List Int)} {lits : List Int} (hL : ∀ c ∈ LL, ∀ x ∈ c, x ≠ 0 ∧ x.natAbs ≤ n) (hl : ∀ x ∈ lits, x ≠ 0 ∧ x.natAbs ≤ n) (hM : holdsB LL M = true) (ht : ∀ x ∈ lits, trueB M x = true) :
    ∃ V, spreadV n LL lits = some V ∧ ∀ x ∈ outTo V n, trueB M x = true := by
  obtain ⟨V1, h1, h2, h3, h4⟩ := litsV_sound lits _ (satV_zero M n) (fun v hv => by have := List.eq_of_mem_replicate hv; omega) (by simp) hl ht
  obtain ⟨V2, g1, g2, g3, g4⟩ := loopV_sound LL hL hM (n + 3) V1 h2 h3 h4
  refine ⟨V2, by unfold spreadV; rw [h1]; exact g1, fun x hx => ?_⟩
  obtain ⟨j, hj, e1, e2⟩ := (outTo_mem V2 n x).1 hx
  have hv : -1 ≤ V2.getD (j + 1) 0 ∧ V2.getD (j + 1) 0 ≤ 1 := by
    have e : V2.getD (j + 1) 0 = V2[j + 1]'(by omega) := by simp [show j + 1 < V2.length by omega]
    rw [e]; exact g3 _ (List.getElem_mem _)
  refine g2 x ?_ ?_
  · rcases (by omega : V2.getD (j + 1) 0 = 1 ∨ V2.getD (j + 1) 0 = -1) with e | e
    · rw [e] at e2; omega
    · rw [e] at e2; omega
  · unfold ofV
    rcases (by omega : V2.getD (j + 1) 0 = 1 ∨ V2.getD (j + 1) 0 = -1) with e | e
    · rw [e] at e2
      rw [if_neg (by omega), show x.natAbs = j + 1 by omega, e]
    · rw [e] at e2
      rw [if_pos (by omega), show x.natAbs = j + 1 by omega, e]; rfl
theorem trueB_pos (M : List Bool) (v : Int) (h0 : v ≠ 0) (h : trueB M v = false) : trueB M (-v) = true := by
  unfold trueB at h ⊢
  rw [Int.natAbs_neg]
  obtain ⟨u, hu⟩ : ∃ u, (decide (v.natAbs ≤ M.length) && M.getD (v.natAbs - 1) false) = u := ⟨_, rfl⟩
  rw [hu] at h ⊢
  by_cases hp : 0 < v
  · rw [decide_eq_true hp] at h
    rw [decide_eq_false (by omega : ¬ 0 < -v)]
    cases u <;> simp_all
  · rw [decide_eq_false hp] at h
    rw [decide_eq_true (by omega : 0 < -v)]
    cases u <;> simp_all
/-- all clauses, and a clause for each literal -/
def allC (LL : List (List Int)) (lits : List Int) : List (List Int) := LL ++ lits.map fun x => [x]
theorem allC_snoc (LL : List (List Int)) (t : List Int) (x : Int) : allC LL (t ++ [x]) = allC LL t ++ [[x]] := by simp [allC]
theorem holdsB_all {LL : List (List Int)} {lits : List Int} {M : List Bool} (h : holdsB (allC LL lits) M = true) : holdsB LL M = true ∧ ∀ x ∈ lits, trueB M x = true := by
  unfold holdsB allC at *
  rw [List.all_append, Bool.and_eq_true] at h
  refine ⟨h.1, fun x hx => ?_⟩
  have := List.all_eq_true.1 h.2 [x] (List.mem_map.2 ⟨x, hx, rfl⟩)
  simpa using this
theorem negs_negs (c : List Int) : negs (negs c) = c := by
  unfold negs
  rw [List.map_map]
  conv => rhs; rw [← List.map_id c]
  apply List.map_congr_left
  intro x _
  simp
theorem ValRow.near {w w' : World} {F : Nat → Prop} {g o n c : Nat} {vs : List Value} (h : ValRow w (.slice (some ⟨g, o, none⟩) n c) vs) (hN : Near F w w') (hg : ¬ F g) : ValRow w' (.slice (some ⟨g, o, none⟩) n c) vs := by
  rcases h with ⟨a', cap', h1, h2⟩ | ⟨b, off, c2, h1, h2, h3, h4, h5⟩
  · exact .inl ⟨a', cap', h1, h2⟩
  · have e := h1
    simp only [Value.slice.injEq, Option.some.injEq, Addr.mk.injEq] at e
    obtain ⟨⟨rfl, rfl, _⟩, _, _⟩ := e
    exact .inr ⟨g, o, c2, h1, h2, h3, Nat.lt_of_lt_of_le h4 hN.size, fun i hi => by rw [World.cell?_of_block (w := w) (a := ⟨g, o + i, none⟩) (hN.block g h4 hg)]; exact h5 i hi⟩
/-- two slices of the call's own that grow side by side; El: what holds whatever becomes of their blocks -/
structure Two (B : Nat) (T1 T2 : TypeId) (w0 w : World) (v : Value) (vs : List Value) (u : Value) (us : List Value) (El : World → Prop) : Prop where
  one : OwnV B T1 w0 w v vs
  two : OwnV B T2 w0 w u us
  ne : ∀ b, v.ownBlock = some b → u.ownBlock ≠ some b
  el : ∀ w', Near (fun b => v.ownBlock = some b ∨ u.ownBlock = some b) w w' → El w'
theorem Two.after {B : Nat} {T1 T2 : TypeId} {w0 w w' : World} {v : Value} {vs : List Value} {u : Value} {us : List Value} {El : World → Prop} (h : Two B T1 T2 w0 w v vs u us El) (hb : Below w.heap.size w w') : Two B T1 T2 w0 w' v vs u us El :=
  ⟨h.one.after hb, h.two.after hb, h.ne, fun w2 h2 => h.el w2 ((near_of_below _ hb).trans h2)⟩
theorem near_back {F : Nat → Prop} {wa w' w2 : World} {v v' : Value} {B : Nat} {T : TypeId} {n : Nat} {xs l : List Value} (ha : Appd wa w' B T v v' n xs l) (hF : ∀ b, F b → b < wa.heap.size) (h2 : Near (fun b => v'.ownBlock = some b ∨ F b) w' w2) : Near (fun b => v.ownBlock = some b ∨ F b) wa w2 := by
  have h1 : Near (fun b => v.ownBlock = some b ∨ F b) wa w' := near_of_grown ha.grow (fun b e => .inl e)
  refine ⟨h2.os.trans h1.os, h2.tape.trans h1.tape, h2.output.trans h1.output, Nat.le_trans h1.size h2.size, fun b hb' hne => ?_⟩
  rw [h2.block b (Nat.lt_of_lt_of_le hb' h1.size) (fun e => by
    rcases e with e | e
    · rcases ha.at_ with g | g
      · rw [g] at e; exact hne (.inl e)
      · rw [g] at e; injection e with e; omega
    · exact hne (.inr e))]
  exact h1.block b hb' hne
theorem Two.app1 {B : Nat} {T1 T2 : TypeId} {w0 w wa w' : World} {v v' : Value} {vs l : List Value} {u : Value} {us : List Value} {El El' : World → Prop} (h : Two B T1 T2 w0 w v vs u us El) (hb : Below w.heap.size w wa) (ha : Appd wa w' B T1 v v' vs.length vs l)
    (hE : ∀ w2, Near (fun b => v.ownBlock = some b ∨ u.ownBlock = some b) wa w2 → El w2 → El' w2) : Two B T1 T2 w0 w' v' (vs ++ l) u us El' := by
  have h1 := h.after hb
  have hlt : ∀ b, u.ownBlock = some b → b < wa.heap.size := fun b e => (row_block h1.two.own e).2
  have ho := h1.one.app (Below.refl _ _) ha
  refine ⟨ho, ⟨ho.bsz, ho.be, ownsRow_near h1.two.own (near_of_grown ha.grow (fun b e => e)) (fun b e g => h.ne b g e)⟩, fun b e => ?_, fun w2 h2 => ?_⟩
  · rcases ha.at_ with g | g
    · rw [g] at e; exact h.ne b e
    · rw [g] at e
      injection e with e
      intro hu
      have := hlt b hu
      omega
  · have := near_back ha hlt h2
    exact hE w2 this (h1.el w2 this)
theorem Two.app2 {B : Nat} {T1 T2 : TypeId} {w0 w wa w' : World} {v : Value} {vs : List Value} {u u' : Value} {us l : List Value} {El : World → Prop} (h : Two B T1 T2 w0 w v vs u us El) (hb : Below w.heap.size w wa) (ha : Appd wa w' B T2 u u' us.length us l) : Two B T1 T2 w0 w' v vs u' (us ++ l) El := by
  have h1 := h.after hb
  have hlt : ∀ b, v.ownBlock = some b → b < wa.heap.size := fun b e => (row_block h1.one.own e).2
  have ho := h1.two.app (Below.refl _ _) ha
  refine ⟨⟨ho.bsz, ho.be, ownsRow_near h1.one.own (near_of_grown ha.grow (fun b e => e)) (fun b e g => h.ne b e g)⟩, ho, fun b e => ?_, fun w2 h2 => ?_⟩
  · rcases ha.at_ with g | g
    · rw [g]; exact h.ne b e
    · rw [g]
      intro hu
      injection hu with hu
      have := hlt b e
      omega
  · have h3 := near_back ha hlt (h2.mono (fun b _ e => e.symm))
    exact h1.el w2 (h3.mono (fun b _ e => e.symm))
/-- each value is a slice that holds its numbers -/
def ElsOf (vals : List Value) (LL : List (List Int)) (w : World) : Prop := ∀ (i : Nat) (h : i < vals.length) (h' : i < LL.length), ValRow w vals[i] (intVals LL[i])
theorem ElsOf.snoc {vals : List Value} {LL : List (List Int)} {w : World} {v : Value} {c : List Int} (h : ElsOf vals LL w) (hl : vals.length = LL.length) (hv : ValRow w v (intVals c)) : ElsOf (vals ++ [v]) (LL ++ [c]) w := by
  intro i hi hi'
  by_cases hlt : i < vals.length
  · rw [List.getElem_append_left hlt, List.getElem_append_left (by omega)]
    exact h i hlt (by omega)
  · have e1 : i = vals.length := by simp at hi; omega
    subst e1
    rw [List.getElem_append_right (Nat.le_refl _), List.getElem_append_right (by omega)]
    simpa using hv
theorem OwnV.rowOf {B : Nat} {T : TypeId} {w0 w : World} {a : Option Addr} {n cap : Nat} {vals : List Value} {LL : List (List Int)} (h : OwnV B T w0 w (.slice a n cap) vals) (hlen : vals.length = LL.length) (he : ElsOf vals LL w) (hl : ∀ c ∈ LL, ∀ y ∈ c, -9223372036854775808 ≤ y ∧ y ≤ 9223372036854775807) : RowOf 1 IntsC w (.slice a n cap) LL := by
  rcases h.row with ⟨a', cap', h1, h2⟩ | ⟨b, off, cap', h1, h2, h3, h4, h5⟩
  · have hl0 : LL = [] := List.eq_nil_of_length_eq_zero (by rw [← hlen, h2]; rfl)
    refine .inl ⟨a', cap', h1, hl0, ?_⟩
    rcases h.own.2 with ⟨e, _⟩ | ⟨g, c2, cur, e, _, _, _, hm, _⟩
    · simp only [Value.slice.injEq] at e h1; omega
    · simp only [Value.slice.injEq] at e h1; omega
  · rw [hlen] at h1 h2
    refine .inr ⟨b, off, cap', h1, h2.2, h3, h4, fun i hi => ⟨[vals[i]'(by rw [hlen]; exact hi)], ⟨rfl, fun j hj => ?_⟩, _, rfl, he i (by rw [hlen]; exact hi) hi, hl _ (List.getElem_mem hi)⟩⟩
    obtain rfl : j = 0 := by omega
    have := h5 i (by rw [hlen]; exact hi)
    rw [Nat.mul_one]
    show w.cell? ⟨b, off + i + 0, Option.none⟩ = _
    rw [Nat.add_zero, this]
    simp [hlen, hi]
theorem rowVals {w : World} {a : Option Addr} {n cap : Nat} {LL : List (List Int)} (h : RowOf 1 IntsC w (.slice a n cap) LL) :
    ∃ vals : List Value, vals.length = LL.length ∧ ValRow w (.slice a n cap) vals ∧ (∀ u ∈ vals, u.oneCell' = true) ∧ ∀ (i : Nat) (h : i < vals.length) (h' : i < LL.length), ValRow w vals[i] (intVals LL[i]) := by
  rcases h with ⟨a', cap', h1, rfl, hc⟩ | ⟨b, off, cap', h1, h2, h3, h4, h5⟩
  · exact ⟨[], rfl, .inl ⟨a', cap', h1, rfl⟩, by simp, fun i h => by simp at h⟩
  · have hall : ∀ i, i < LL.length → ∃ v : Value, w.cell? ⟨b, off + i, none⟩ = some v ∧ v.oneCell' = true ∧ ∀ h' : i < LL.length, ValRow w v (intVals LL[i]) := fun i hi => by
      obtain ⟨cs, ⟨_, hc⟩, v, rfl, hr, _⟩ := h5 i hi
      have := hc 0 (by omega)
      rw [Nat.mul_one] at this
      obtain ⟨va, vc, rfl⟩ := hr.shape
      exact ⟨_, by simpa using this, rfl, fun _ => hr⟩
    obtain ⟨f, hf⟩ := choose_lt hall
    by_cases h0 : LL.length = 0
    · have hl0 := List.eq_nil_of_length_eq_zero h0
      subst hl0
      exact ⟨[], rfl, .inl ⟨_, _, h1, rfl⟩, by simp, fun i h => by simp at h⟩
    · refine ⟨(List.range LL.length).map f, by simp, .inr ⟨b, off, cap', by simpa using h1, by simp; omega, h3, h4, fun i hi => ?_⟩, fun u hu => ?_, fun i hi hi' => ?_⟩
      · have hi' : i < LL.length := by simpa using hi
        rw [(hf i hi').1]
        simp [hi']
      · obtain ⟨i, hi, rfl⟩ := List.mem_map.1 hu
        exact (hf i (List.mem_range.1 hi)).2.1
      · have := (hf i hi').2.2 hi'
        simpa using this
end Go.Proofs.Yteimfcokobdldaa
