/- States told with less; rows let go; calls; the rule for a function. No program in sight. -/
import Derived.Test.YtoebfmhogkjmgaaGreatDoorFxI
namespace Go.Proofs.YtoebfmhogkjmgaaGreatDoor.Fx
open Go.RowKit
set_option linter.unusedVariables false
set_option linter.unusedSimpArgs false
theorem sget_mem : ∀ (s : Slots) (t : Nat), sget s t = .dead ∨ ∃ p ∈ s, p.1 = t ∧ sget s t = p.2 := by
  intro s
  induction s with
  | nil => intro t; exact .inl rfl
  | cons p u ih =>
    intro t
    obtain ⟨q, x⟩ := p
    unfold sget
    by_cases h : q = t
    · rw [if_pos h]; exact .inr ⟨(q, x), List.mem_cons_self, h, rfl⟩
    · rw [if_neg h]
      rcases ih t with h2 | ⟨p, h2, h3, h4⟩
      · exact .inl h2
      · exact .inr ⟨p, List.mem_cons_of_mem _ h2, h3, h4⟩
theorem hget_mem : ∀ (s : AHeap) (k : Nat) (o : AObj), hget s k = some o → (k, o) ∈ s := by
  intro s
  induction s with
  | nil => intro k o h; cases h
  | cons p u ih =>
    intro k o h
    obtain ⟨q, x⟩ := p
    unfold hget at h
    by_cases e : q = k
    · rw [if_pos e] at h; injection h with h; rw [← h, ← e]; exact List.mem_cons_self
    · rw [if_neg e] at h; exact List.mem_cons_of_mem _ (ih k o h)
def okObj (H : AHeap) : AObj → Bool
  | .var _ cells => okL H cells
  | .row _ _ _ => true
  | .crow _ _ rows => rows.all (okL H)
/-- slots and objects left out, told with less -/
def PinW (s1 : AHeap) : AHeap → Prop
  | [] => True
  | (k, _) :: r => (1000 ≤ k → (hget s1 k).isSome = true) ∧ PinW s1 r
theorem pinW_mem {s1 : AHeap} : ∀ (l : AHeap), PinW s1 l → ∀ p ∈ l, 1000 ≤ p.1 → (hget s1 p.1).isSome = true := by
  intro l
  induction l with
  | nil => intro _ p hp; cases hp
  | cons q t ih =>
    obtain ⟨k, x⟩ := q
    intro h p hp
    rcases List.mem_cons.1 hp with rfl | hp
    · exact h.1
    · exact ih h.2 p hp
structure WeakOk (s s1 : ASt) : Prop where
  pin : PinW s1.hp s.hp
  sl : ∀ p ∈ s1.sl, Coe (sget s.sl p.1) p.2
  hp : ∀ p ∈ s1.hp, hget s.hp p.1 = some p.2
  ok : s1.sl.all (fun p => okAV s1.hp p.2) = true
  oh : s1.hp.all (fun p => okObj s1.hp p.2) = true
theorem Conc.weak {E : Ent} {c : Cx} {H H1 : AHeap} {w : World} (hC : Conc E c H w) (hsub : SubH H1 H) (pin : PinW H1 H) (oh : H1.all (fun p => okObj H1 p.2) = true) : Conc E c H1 w := by
  have hpin : ∀ k o, hget H k = some o → 1000 ≤ k → hget H1 k = some o := fun k o hk hb => by
    have h1 := pinW_mem _ pin (k, o) (hget_mem _ _ _ hk) hb
    obtain ⟨o', ho'⟩ := Option.isSome_iff_exists.1 h1
    have h2 := hsub k o' ho'
    rw [hk] at h2; injection h2 with h2; rw [h2]; exact ho'
  have hne : ∀ k, hget H1 k ≠ none → hget H k ≠ none := fun k h => by
    cases e : hget H1 k with
    | none => exact absurd e h
    | some o => rw [hsub k o e]; simp
  refine ⟨fun k o hk => ?_, fun k k' b h1 h2 => hC.inj k k' b (hne k h1) (hne k' h2), hC.lt, hC.ent, hC.le, hC.new, fun k b h1 => hC.own k b (hne k h1), hC.keep, hC.os, hC.tape, hC.output, hC.size, ⟨hC.pin.big, fun k ty cells e => ?_, fun k ty n rows e => ?_, fun k ty n rows e => ?_⟩⟩
  · have h0 := hC.obj k o (hsub k o hk)
    have hok := List.all_eq_true.1 oh (k, o) (hget_mem _ _ _ hk)
    cases o with
    | var ty cells =>
      obtain ⟨b, cs, g1, g2, g3, g4, g5⟩ := h0
      exact ⟨b, cs, g1, g2, g3, fun i hi => (g4 i hi).sub hsub (fun _ _ _ => rfl) (fun _ _ h => h) (okL_get _ _ hok), g5⟩
    | row ty n rows => exact h0
    | crow ty n rows =>
      obtain ⟨g0, xs, g1, g2, g3⟩ := h0
      refine ⟨g0, xs, g1, fun i hi => ⟨(g2 i hi).1, fun j hj => ((g2 i hi).2 j hj).sub hsub (fun _ _ _ => rfl) (fun _ _ h => h) (okL_get _ _ ?_)⟩, g3⟩
      have := List.all_eq_true.1 hok (rows.getD i []) (by simp only [List.getD_eq_getElem?_getD, List.getElem?_eq_getElem hi, Option.getD_some]; exact List.getElem_mem hi)
      exact this
  · obtain ⟨cells', g1, g2⟩ := hC.pin.var _ _ _ e
    exact ⟨cells', hpin _ _ g1 (hC.pin.big _ _ e), g2⟩
  · obtain ⟨rows', g1, g2⟩ := hC.pin.row _ _ _ _ e
    exact ⟨rows', hpin _ _ g1 (hC.pin.big _ _ e), g2⟩
  · obtain ⟨rows', g1, g2⟩ := hC.pin.crow _ _ _ _ e
    exact ⟨rows', hpin _ _ g1 (hC.pin.big _ _ e), g2⟩
theorem weak_of {s s1 : ASt} (h : WeakOk s s1) : Weak s s1 := by
  intro n E a w ht
  obtain ⟨⟨c, hC, hS⟩, h3, h4⟩ := ht
  have hsub : SubH s1.hp s.hp := fun k o hk => h.hp (k, o) (hget_mem _ _ _ hk)
  refine ⟨⟨c, hC.weak hsub h.pin h.oh, fun t => ?_⟩, h3, h4⟩
  rcases sget_mem s1.sl t with e | ⟨p, hp, e1, e2⟩
  · rw [e]; exact .dead _
  · rw [e2]
    have h1 := h.sl p hp _ _ _ _ (hS p.1)
    rw [e1] at h1
    exact h1.sub hsub (fun _ _ _ => rfl) (fun _ _ h => h) (List.all_eq_true.1 h.ok p hp)
/-- a row that nobody changes any more -/
def frzC (k : Nat) (rows : List (List T)) : CV → CV
  | .own k' len => if k' = k then (if len = rows.length then .t (.s rows) else .dead) else .own k' len
  | .elo k' len i j => if k' = k then .dead else .elo k' len i j
  | .cown k' len => .cown k' len
  | .celo k' len i j => .celo k' len i j
  | .fn f [] [] => .fn f [] []
  | .fn _ _ _ => .dead
  | x => x
def frzAV (k : Nat) (rows : List (List T)) : AV → AV
  | .c x => .c (frzC k rows x)
  | .agg l => .agg (l.map (frzC k rows))
  | .tup [] => .tup []
  | .tup _ => .dead
  | .dead => .dead
def frzO (k : Nat) (rows : List (List T)) : AObj → AObj
  | .var ty cells => .var ty (cells.map (frzC k rows))
  | .crow ty n rs => .crow ty n (rs.map fun r => r.map (frzC k rows))
  | o => o
def frzS (k : Nat) (rows : List (List T)) : Slots → Slots
  | [] => []
  | (t, x) :: s => (t, frzAV k rows x) :: frzS k rows s
def frzH (k : Nat) (rows : List (List T)) : AHeap → AHeap
  | [] => []
  | (q, o) :: s => if q = k then frzH k rows s else (q, frzO k rows o) :: frzH k rows s
theorem frzS_get (k : Nat) (rows : List (List T)) : ∀ (s : Slots) (t : Nat), sget (frzS k rows s) t = frzAV k rows (sget s t) := by
  intro s
  induction s with
  | nil => intro t; rfl
  | cons p u ih =>
    intro t
    obtain ⟨q, x⟩ := p
    simp only [frzS, sget]
    split
    · rfl
    · exact ih t
theorem frzH_get (k : Nat) (rows : List (List T)) : ∀ (s : AHeap) (q : Nat), hget (frzH k rows s) q = if q = k then none else (hget s q).map (frzO k rows) := by
  intro s
  induction s with
  | nil => intro q; simp [frzH, hget]
  | cons p u ih =>
    intro q
    obtain ⟨q', x⟩ := p
    unfold frzH
    by_cases h : q' = k
    · rw [if_pos h, ih]
      by_cases h2 : q = k
      · rw [if_pos h2, if_pos h2]
      · rw [if_neg h2, if_neg h2]
        show _ = Option.map (frzO k rows) (if q' = q then some x else hget u q)
        rw [if_neg (by omega)]
    · rw [if_neg h]
      unfold hget
      by_cases h2 : q' = q
      · rw [if_pos h2, if_pos h2, if_neg (by omega)]; rfl
      · rw [if_neg h2, if_neg h2, ih]
theorem weak_freeze {s : ASt} (k : Nat) (hk1 : k < 1000) {e : TypeId} {n : Nat} {rows : List (List T)} (hk : hget s.hp k = some (.row e n rows)) : Weak s ⟨frzS k rows s.sl, frzH k rows s.hp⟩ := by
  intro nn E a w ht
  obtain ⟨⟨c, hC, hS⟩, h3, h4⟩ := ht
  obtain ⟨hpn, xs, hrow, hrr, _⟩ := hC.obj k _ hk
  have htree : TRep (fun b i => c.A b i ∨ blk (c.m k) = some b) w (c.m k) (.s rows) := by
    by_cases h0 : rows.length = 0
    · have hr0 : rows = [] := List.length_eq_zero_iff.1 h0
      subst hr0
      rcases hrow with ⟨a, e1, _⟩ | ⟨b, cap, cur, e1, _⟩
      · rw [e1]; exact .e a 0
      · rw [e1]; exact .e _ _
    · obtain ⟨b, cap, cur, e1, e2, e3, e4, e5, e6⟩ := own_some hrow (by omega)
      have hcell : ∀ i j, i < rows.length → j < n → w.cell? ⟨b, i * n + j, none⟩ = some (xs.getD (i * n + j) undef) := fun i j hi hj => by
        have hle := row_le (i := i) (n := n) (m := rows.length) (j := j + 1) hi hj
        have hlx : i * n + j < xs.length := by rw [hrow.len]; omega
        have hcur : i * n + j < cur.size := by
          have := hrow.len
          rw [← e6, List.length_take] at this
          simp at this; omega
        have e7 : xs.getD (i * n + j) undef = cur.toList.getD (i * n + j) undef := by
          rw [← e6]
          simp only [List.getD_eq_getElem?_getD, List.getElem?_take]
          rw [if_pos (by omega)]
        rw [e7]
        simp [World.cell?, e2, hcur]
      rw [e1]
      refine .s b 0 cap n rows (fun i j => xs.getD (i * n + j) undef) e3 e4 (fun i hi => (hrr i hi).1) (fun i j hi hj => ⟨.inr (blk_some (by omega)), ?_⟩) (fun i j hi hj => ((hrr i hi).2 j hj).mono (fun b i v h1 h2 => ⟨.inl h1, h2⟩))
      rw [Nat.zero_add]; exact hcell i j hi hj
  have hC2 : ∀ q o, hget (frzH k rows s.hp) q = some o → q ≠ k ∧ ∃ o', hget s.hp q = some o' ∧ o = frzO k rows o' := fun q o hq => by
    rw [frzH_get] at hq
    by_cases e1 : q = k
    · rw [if_pos e1] at hq; cases hq
    · rw [if_neg e1] at hq
      cases ho : hget s.hp q with
      | none => rw [ho] at hq; cases hq
      | some o' => rw [ho] at hq; injection hq with hq; exact ⟨e1, o', rfl, hq.symm⟩
  have hne : ∀ q, hget (frzH k rows s.hp) q ≠ none → q ≠ k ∧ hget s.hp q ≠ none := fun q hq => by
    cases ho : hget (frzH k rows s.hp) q with
    | none => exact absurd ho hq
    | some o => obtain ⟨h1, o', h2, _⟩ := hC2 q o ho; exact ⟨h1, by rw [h2]; simp⟩
  have hrep : ∀ v x, CRep c s.hp w v x → CRep ⟨c.m, fun b i => c.A b i ∨ blk (c.m k) = some b⟩ (frzH k rows s.hp) w v (frzC k rows x) := by
    intro v x h
    have hm : ∀ {v x}, TRep c.A w v x → TRep (fun b i => c.A b i ∨ blk (c.m k) = some b) w v x := fun h => h.mono (fun b i v h1 h2 => ⟨.inl h1, h2⟩)
    cases h with
    | dead v h => exact .dead v h
    | t h => exact .t (hm h)
    | z a => exact .z a
    | ab b => exact .ab b
    | ptr ho hmk =>
      rename_i k' i ty cells b
      have hkk : k' ≠ k := fun e => by rw [e, hk] at ho; cases ho
      exact .ptr (cells := cells.map (frzC k rows)) (ty := ty) (by rw [frzH_get, if_neg hkk, ho]; rfl) hmk
    | own ho h1 hl hv =>
      rename_i k' len ty' n' rows'
      show CRep _ _ _ _ (if k' = k then _ else _)
      by_cases e1 : k' = k
      · rw [if_pos e1]
        subst e1
        rw [hk] at ho; injection ho with ho; injection ho with _ _ e3; subst e3
        by_cases e2 : len = rows.length
        · rw [if_pos e2, hv e2]; exact .t htree
        · rw [if_neg e2]; exact .dead _ h1
      · rw [if_neg e1]
        exact .own (by rw [frzH_get, if_neg e1, ho]; rfl) h1 hl hv
    | el vs hc hr => exact .el vs (fun j hj => ⟨.inl (hc j hj).1, (hc j hj).2⟩) (fun j hj => hm (hr j hj))
    | elo ho h1 hl hv =>
      rename_i k' len i j ty' n' rows'
      show CRep _ _ _ _ (if k' = k then _ else _)
      by_cases e1 : k' = k
      · rw [if_pos e1]; exact .dead _ h1
      · rw [if_neg e1]
        exact .elo (by rw [frzH_get, if_neg e1, ho]; rfl) h1 hl hv
    | cown ho h1 hl hv =>
      rename_i k' len ty' n' rows'
      have e1 : k' ≠ k := fun e => by rw [e, hk] at ho; cases ho
      exact .cown (rows := rows'.map fun r => r.map (frzC k rows)) (by rw [frzH_get, if_neg e1, ho]; rfl) h1 (by simpa using hl) (fun e => hv (by simpa using e))
    | celo ho h1 hl hv =>
      rename_i k' len i j ty' n' rows'
      have e1 : k' ≠ k := fun e => by rw [e, hk] at ho; cases ho
      exact .celo (rows := rows'.map fun r => r.map (frzC k rows)) (by rw [frzH_get, if_neg e1, ho]; rfl) h1 (by simpa using hl) (fun e => hv (by simpa using e))
    | fn f fs cs vs us h1 h2 hf hc =>
      cases fs with
      | cons x t => exact .dead _ rfl
      | nil => cases cs with
        | cons x t => exact .dead _ rfl
        | nil => exact .fn f [] [] vs us h1 h2 (fun i hi => absurd hi (Nat.not_lt_zero _)) (fun i hi => absurd hi (Nat.not_lt_zero _))
  have hget' : ∀ (l : List CV) (i : Nat), (l.map (frzC k rows)).getD i .dead = frzC k rows (l.getD i .dead) := fun l i => by
    simp only [List.getD_eq_getElem?_getD, List.getElem?_map]
    cases l[i]? <;> rfl
  refine ⟨⟨⟨c.m, fun b i => c.A b i ∨ blk (c.m k) = some b⟩, ⟨fun q o hq => ?_, fun q q' b h1 h2 => hC.inj q q' b (hne q h1).2 (hne q' h2).2, fun b i h => ?_, hC.ent, fun b i h => .inl (hC.le b i h), fun b i h => ?_, fun q b h1 => hC.own q b (hne q h1).2, hC.keep, hC.os, hC.tape, hC.output, hC.size, ⟨hC.pin.big, fun q ty cells e => ?_, fun q ty n rows1 e => ?_, fun q ty n rows1 e => ?_⟩⟩, fun t => ?_⟩, h3, h4⟩
  · obtain ⟨e1, o', e2, rfl⟩ := hC2 q o hq
    have h0 := hC.obj q o' e2
    have hno : ∀ b, blk (c.m q) = some b → ∀ i, ¬ (c.A b i ∨ blk (c.m k) = some b) := fun b hb i h => by
      rcases h with h | h
      · exact h0.noA hb i h
      · exact e1 (hC.inj q k b (by rw [e2]; simp) (by rw [hk]; simp) hb h)
    cases o' with
    | var ty cells =>
      obtain ⟨b, cs, g1, g2, g3, g4, g5⟩ := h0
      refine ⟨b, cs, g1, g2, by simpa using g3, fun i hi => ?_, hno b (by rw [g1]; rfl)⟩
      rw [hget']
      exact hrep _ _ (g4 i (by simpa using hi))
    | row ty n' rows' =>
      obtain ⟨g0, ys, g1, g2, g3⟩ := h0
      exact ⟨g0, ys, g1, fun i hi => ⟨(g2 i hi).1, fun j hj => ((g2 i hi).2 j hj).mono (fun b i v h1 h2 => ⟨.inl h1, h2⟩)⟩, hno⟩
    | crow ty n' rows' =>
      obtain ⟨g0, ys, g1, g2, g3⟩ := h0
      have hgr : ∀ i, i < rows'.length → (rows'.map fun r => r.map (frzC k rows)).getD i [] = (rows'.getD i []).map (frzC k rows) := fun i hi => by
        simp [List.getD_eq_getElem?_getD, List.getElem?_map, List.getElem?_eq_getElem hi]
      refine ⟨g0, ys, by simpa using g1, fun i hi => ?_, hno⟩
      rw [List.length_map] at hi
      rw [hgr i hi]
      exact ⟨by simpa using (g2 i hi).1, fun j hj => by rw [hget']; exact hrep _ _ ((g2 i hi).2 j hj)⟩
  · rcases h with h | h
    · exact hC.lt b i h
    · exact (hC.obj k _ hk).blk_lt h
  · rcases h with h | h
    · exact hC.new b i h
    · exact .inr ((hC.own k b (by rw [hk]; simp) h).symm)
  · obtain ⟨cells', g1, g2⟩ := hC.pin.var _ _ _ e
    have := hC.pin.big _ _ e
    exact ⟨cells'.map (frzC k rows), by rw [frzH_get, if_neg (by omega), g1]; rfl, g2⟩
  · obtain ⟨rows', g1, g2⟩ := hC.pin.row _ _ _ _ e
    have := hC.pin.big _ _ e
    exact ⟨rows', by rw [frzH_get, if_neg (by omega), g1]; rfl, g2⟩
  · obtain ⟨rows', g1, g2⟩ := hC.pin.crow _ _ _ _ e
    have := hC.pin.big _ _ e
    exact ⟨rows'.map fun r => r.map (frzC k rows), by rw [frzH_get, if_neg (by omega), g1]; rfl, by simpa using g2⟩
  · have h0 := hS t
    rw [frzS_get]
    cases h : sget s.sl t with
    | dead => exact .dead _
    | c x =>
      rw [h] at h0
      generalize a.tmps.getD t undef = v at h0
      cases h0 with
      | c h0 => exact .c (hrep _ _ h0)
    | agg l =>
      rw [h] at h0
      generalize a.tmps.getD t undef = v at h0
      cases h0 with
      | agg cs l h1 h2 =>
        refine .agg cs _ (by simpa using h1) (fun i hi => ?_)
        rw [hget']
        exact hrep _ _ (h2 i (by simpa using hi))
    | tup l =>
      rw [h] at h0
      generalize a.tmps.getD t undef = v at h0
      cases l with
      | nil => cases h0 with
        | tup vs _ h1 h2 => exact .tup vs [] h1 (fun i hi => absurd hi (Nat.not_lt_zero _))
      | cons x u => exact .dead _
/-- a slice without room, that is to grow -/
theorem weak_adopt {s : ASt} (t k : Nat) (e : TypeId) (n : Nat) (hn : 0 < n) (ht : sget s.sl t = .c (.t (.v (.slice none 0 0))) ∨ sget s.sl t = .c .z) (hk : hget s.hp k = none) : Weak s ⟨sset s.sl t (.c (.own k 0)), hset s.hp k (.row e n [])⟩ := by
  intro nn E a w h
  obtain ⟨⟨c, hC, hS⟩, h3, h4⟩ := h
  have h0 := hS t
  obtain ⟨ad, hv⟩ : ∃ ad, a.tmps.getD t undef = .slice ad 0 0 := by
    rcases ht with ht | ht
    · rw [ht] at h0
      exact ⟨none, exAV_eq h0 (y := .slice none 0 0) rfl⟩
    · rw [ht] at h0
      generalize a.tmps.getD t undef = v at h0
      cases h0 with
      | c h0 => cases h0 with
        | z ad => exact ⟨ad, rfl⟩
  obtain ⟨g1, g2, g3⟩ := hC.adopt k hk e n hn ad
  refine ⟨⟨_, g1, fun t' => ?_⟩, h3, h4⟩
  rw [sget_sset]
  split
  · rename_i e1
    subst e1
    rw [hv]
    exact .c g3
  · exact (hS t').later g2
/-- a variable's cells, told otherwise -/
theorem Conc.revar {E : Ent} {c : Cx} {H : AHeap} {w : World} (hC : Conc E c H w) {k : Nat} {ty : TypeId} {cells cells' : List CV} (hk : hget H k = some (.var ty cells)) (hl : cells'.length = cells.length)
    (h : ∀ (v : Value) i, i < cells.length → CRep c H w v (cells.getD i .dead) → CRep c H w v (cells'.getD i .dead)) : Conc E c (hset H k (.var ty cells')) w ∧ Later c H w c (hset H k (.var ty cells')) w := by
  have hlat : Later c H w c (hset H k (.var ty cells')) w := by
    refine ⟨fun j t cl hj => ?_, fun j t n rows hj => ?_, fun j t n rows hj => ?_, fun b i v h1 h2 => ⟨h1, h2⟩⟩
    · by_cases e : k = j
      · subst e; rw [hk] at hj; injection hj with hj; injection hj with e1 e2
        exact ⟨cells', by rw [hget_hset, if_pos rfl, e1], rfl⟩
      · exact ⟨cl, by rw [hget_hset, if_neg e]; exact hj, rfl⟩
    · by_cases e : k = j
      · subst e; rw [hk] at hj; cases hj
      · exact ⟨rows, by rw [hget_hset, if_neg e]; exact hj, .inl ⟨rfl, rfl⟩⟩
    · by_cases e : k = j
      · subst e; rw [hk] at hj; cases hj
      · exact ⟨rows, by rw [hget_hset, if_neg e]; exact hj, .inl ⟨rfl, rfl⟩⟩
  have hne : ∀ j, hget (hset H k (.var ty cells')) j ≠ none → hget H j ≠ none := fun j hj => by
    rw [hget_hset] at hj
    split at hj
    · rename_i e; subst e; rw [hk]; simp
    · exact hj
  refine ⟨⟨fun j o hj => ?_, fun j j' b g1 g2 => hC.inj j j' b (hne j g1) (hne j' g2), hC.lt, hC.ent, hC.le, hC.new, fun j b g => hC.own j b (hne j g), hC.keep, hC.os, hC.tape, hC.output, hC.size, hC.pin.step hlat⟩, hlat⟩
  rw [hget_hset] at hj
  by_cases e : k = j
  · rw [if_pos e] at hj; injection hj with hj; subst hj; subst e
    obtain ⟨b, cs, g1, g2, g3, g4, g5⟩ := hC.obj k _ hk
    exact ⟨b, cs, g1, g2, g3.trans hl.symm, fun i hi => (h _ i (by omega) (g4 i (by omega))).later hlat, g5⟩
  · rw [if_neg e] at hj
    have h0 := hC.obj j o hj
    exact h0.later hlat rfl (fun b hb => rfl) (fun b i hb => h0.noA hb i)
/-- a variable's field that is nil, and is to grow -/
theorem weak_adoptV {s : ASt} (k i key : Nat) (e : TypeId) (n : Nat) (hn : 0 < n) {ty : TypeId} {cells : List CV} (ho : hget s.hp k = some (.var ty cells)) (hi : cells.getD i .dead = .t (.v (.slice none 0 0))) (hi2 : i < cells.length) (hk : hget s.hp key = none) (hkk : k ≠ key) : Weak s ⟨s.sl, hset (hset s.hp key (.row e n [])) k (.var ty (cells.set i (.own key 0)))⟩ := by
  intro nn E a w h
  obtain ⟨⟨c, hC, hS⟩, h3, h4⟩ := h
  obtain ⟨g1, g2, g3⟩ := hC.adopt key hk e n hn none
  have ho' : hget (hset s.hp key (.row e n [])) k = some (.var ty cells) := by rw [hget_hset, if_neg (Ne.symm hkk)]; exact ho
  obtain ⟨k1, k2⟩ := g1.revar ho' (cells' := cells.set i (.own key 0)) (by simp) (fun v j hj hr => by
    by_cases e1 : i = j
    · subst e1
      rw [hi] at hr
      have ev := exC_eq hr (y := .slice none 0 0) rfl
      have e2 : (cells.set i (.own key 0)).getD i .dead = .own key 0 := by simp [List.getD_eq_getElem?_getD, hi2]
      rw [e2, ev]; exact g3
    · have e2 : (cells.set i (.own key 0)).getD j .dead = cells.getD j .dead := by simp [List.getD_eq_getElem?_getD, List.getElem?_set_ne e1]
      rw [e2]; exact hr)
  exact ⟨⟨_, k1, fun t' => ((hS t').later g2).later k2⟩, h3, h4⟩
section
variable {P : Program} {dst : Option Tmp} {ty0 : TypeId} {pos : String} {af : Array Edge} {g : Option (Nat × Bool)} {ρ : Operand → AV} {H : AHeap}
/-- what a function comes to, of data alone, changing nothing -/
def FxPure (P : Program) (f : FuncId) (args : List AV) (r : AV) : Prop :=
  ∀ (A : Nat → Nat → Prop) (w : World) (vals : List Value), (∀ b i, A b i → b < w.heap.size) → vals.length = args.length → (∀ i, i < args.length → VRep ⟨fun _ => undef, A⟩ [] w (vals.getD i undef) (args.getD i .dead)) →
    Calls P f vals.toArray w fun e w' => ∃ v A', e = .returned v ∧ Grew w w' ∧ (∀ b i, A b i → A' b i) ∧ (∀ b i, A' b i → A b i ∨ (w.heap.size ≤ b ∧ b < w'.heap.size)) ∧ VRep ⟨fun _ => undef, A'⟩ [] w' v r
def goB (P : Program) (f : FuncId) : Bool :=
  match P.funcs[f]? with
  | some fn => fn.name != "runtime.NumGoroutine" && fn.body.isSome
  | none => false
class Goes (P : Program) (f : FuncId) : Prop where
  h : goB P f = true
theorem run_callFunc {f : FuncId} (h : goB P f = true) (args : Array Value) (w : World) : (callFunc f args).run P w = .ok (.enter f args) w := by
  unfold goB at h
  split at h
  · rename_i fn hf
    simp only [Bool.and_eq_true, bne_iff_ne] at h
    obtain ⟨h1, h2⟩ := h
    cases hb : fn.body with
    | none => rw [hb] at h2; cases h2
    | some b => simp [callFunc, Go.program, Sem.run, hf, h1, hb]
  · cases h
theorem step_call (f : FuncId) (xs : List Operand) {args : List AV} {r : AV} {ats : Array TypeId} [hG : Goes P f] (h : FxPure P f args r) (hc : CoeA (xs.map ρ) args) (hok : okAL [] args = true) : StepK P .p ⟨dst, .call { callee := .value (.func f), args := xs.toArray, argTypes := ats }, ty0, pos, af, g⟩ ρ H H r :=
  ⟨rfl, fun H2 E c a w K Q hC hx hK => by
    have hlen : args.length = xs.length := by have := hc.get.1; simp at this; omega
    have hargs : ∀ i, i < args.length → VRep ⟨fun _ => undef, c.A⟩ [] w ((xs.map a.eval).getD i undef) (args.getD i .dead) := fun i hi => by
      have hi' : i < xs.length := by omega
      have h1 := hx xs[i] (by simp [Op.operands, Call.operands])
      have h2 := hc.get.2 i hi c H2 w (a.eval xs[i]) (by
        have e : (xs.map ρ).getD i .dead = ρ xs[i] := by simp [List.getD_eq_getElem?_getD, List.getElem?_map, List.getElem?_eq_getElem hi']
        rw [e]; exact h1)
      have e : (xs.map a.eval).getD i undef = a.eval xs[i] := by simp [List.getD_eq_getElem?_getD, List.getElem?_map, List.getElem?_eq_getElem hi']
      rw [e]
      exact h2.sub (m := fun _ => undef) (A' := c.A) (H1 := []) (fun k o h => (by cases h)) (fun k o h => (by cases h)) (fun _ _ h => h) (okAL_get _ _ hok)
    have hcall := h c.A w (xs.map a.eval) hC.lt (by simp [hlen]) hargs
    unfold Oper.wp
    have hrun : (execOp a.eval ⟨dst, .call { callee := .value (.func f), args := xs.toArray, argTypes := ats }, ty0, pos, af, g⟩).run P w = .ok (.enter f (xs.map a.eval).toArray) w := by
      simp [execOp, resolve, Deferred.ofValue, invoke, Act.eval, run_callFunc hG.h]
    rw [hrun]
    show Calls P f _ w _
    refine hcall.mono ?_
    rintro e w' ⟨v, A', rfl, hg, h1, h2, h3⟩
    obtain ⟨k1, k2⟩ := hC.grew hg A' h1 h2
    have hl : Later ⟨fun _ => undef, A'⟩ [] w' ⟨c.m, A'⟩ H2 w' := ⟨fun k t cl h => (by cases h), fun k t n rows h => (by cases h), fun k t n rows h => (by cases h), fun b i v h1 h2 => ⟨h1, h2⟩⟩
    exact hK v ⟨c.m, A'⟩ w' k1 k2 (h3.later hl)⟩
/-- what a result's variable holds -/
inductive ResV (P : Program) (s : ASt) : ResultVar → AV → Prop where
  | tmp (t : Tmp) (x : AV) (h : sget s.sl t = x) : ResV P s (.tmp t) x
  | cell (a : Tmp) (ty : TypeId) (k : Nat) (vt : TypeId) (cells : List CV) (agg : Bool) (n : Nat) (h1 : sget s.sl a = .c (.ptr k 0)) (h2 : hget s.hp k = some (.var vt cells)) (h3 : shapeB P ty agg n = true) (h4 : agg = false → n = 1) (h5 : n ≤ cells.length) : ResV P s (.cell a ty) (takeAV agg n cells 0)
inductive ResL (P : Program) (s : ASt) : List ResultVar → List AV → Prop where
  | nil : ResL P s [] []
  | cons {r : ResultVar} {x : AV} {l : List ResultVar} {k : List AV} (h : ResV P s r x) (t : ResL P s l k) : ResL P s (r :: l) (x :: k)
def resOf : List AV → AV
  | [x] => x
  | l => .tup l
theorem resV_run {s : ASt} {E : Ent} {c : Cx} {w : World} {a : Act} (hC : Conc E c s.hp w) (hS : SlotsRep c s.hp w a s.sl) {r : ResultVar} {x : AV} (h : ResV P s r x) :
    ∃ v, ((match r with | .tmp t => pure (a.tmps.getD t undef) | .cell b t => do loadVar t (← asAddr (a.tmps.getD b undef)) : Sem Value)).run P w = .ok v w ∧ VRep c s.hp w v x := by
  cases h with
  | tmp t x h => exact ⟨_, rfl, h ▸ hS t⟩
  | cell b ty k vt cells agg n h1 h2 h3 h4 h5 =>
    have hv := hS b
    rw [h1] at hv
    obtain ⟨bb, ty', cells', e, ho', hm⟩ := cptr hv
    obtain ⟨b', cs, g1, g2, g3, g4, g5⟩ := hC.obj k _ h2
    have hbb : b' = bb := by rw [hm] at g1; injection g1 with g1; injection g1 with g1; injection g1 with g1; exact g1.symm
    subst hbb
    have hcell : ∀ j, j < n → w.cell? ⟨b', 0 + j, none⟩ = some (((List.range n).map fun j => cs.getD (0 + j) undef).getD j undef) := fun j hj => by
      have hlt : j < cs.size := by omega
      simp [World.cell?, g2, hlt, List.getD_eq_getElem?_getD, List.getElem?_map, List.getElem?_range hj]
    have hrun := run_loadVar_cells (P := P) h3 h4 w b' 0 ((List.range n).map fun j => cs.getD (0 + j) undef) (by simp) hcell
    refine ⟨_, ?_, take_rep (l := cells) (i := 0) (cs := (List.range n).map fun j => cs.getD (0 + j) undef) (by simp) h4 (by omega) (fun j hj => ?_)⟩
    · simp only [e, asAddr, Sem.run_bind, Sem.run_pure, Result.andThen_ok, hrun]
    · have := g4 (0 + j) (by omega)
      simpa [List.getD_eq_getElem?_getD, List.getElem?_map, List.getElem?_range hj] using this
theorem resL_run {s : ASt} {E : Ent} {c : Cx} {w : World} {a : Act} (hC : Conc E c s.hp w) (hS : SlotsRep c s.hp w a s.sl) {rs : List ResultVar} {xs : List AV} (h : ResL P s rs xs) :
    ∃ vs : List Value, (rs.mapM fun r => (match r with | .tmp t => pure (a.tmps.getD t undef) | .cell b t => do loadVar t (← asAddr (a.tmps.getD b undef)) : Sem Value)).run P w = .ok vs w ∧ vs.length = xs.length ∧ ∀ i, i < xs.length → VRep c s.hp w (vs.getD i undef) (xs.getD i .dead) := by
  induction h with
  | nil => exact ⟨[], by simp, rfl, fun i hi => absurd hi (Nat.not_lt_zero _)⟩
  | cons h t ih =>
    obtain ⟨v, h1, h2⟩ := resV_run hC hS h
    obtain ⟨vs, h3, h4, h5⟩ := ih
    refine ⟨v :: vs, ?_, by simp [h4], fun i hi => ?_⟩
    · rw [List.mapM_cons]
      simp only [Sem.run_bind, h1, Result.andThen_ok, h3, Sem.run_pure]
    · cases i with
      | zero => simpa using h2
      | succ i => simpa using h5 i (by simpa using hi)
/-- what is handed back -/
def retQ (P : Program) (rs : List ResultVar) (r : AV) : AEx → ASt → Prop
  | .exit _, _ => False
  | _, s => ∃ xs, ResL P s rs xs ∧ Coe (resOf xs) r ∧ okAV [] r = true
def slotsFrom (k : Nat) : List AV → Slots
  | [] => []
  | x :: t => (k, x) :: slotsFrom (k + 1) t
theorem slotsFrom_get : ∀ (l : List AV) (k t : Nat), sget (slotsFrom k l) t = if k ≤ t then l.getD (t - k) .dead else .dead := by
  intro l
  induction l with
  | nil => intro k t; simp [slotsFrom, sget]
  | cons x u ih =>
    intro k t
    unfold slotsFrom sget
    by_cases h : k = t
    · subst h; simp
    · rw [if_neg h, ih]
      by_cases h2 : k ≤ t
      · rw [if_pos (by omega), if_pos h2]
        have e : t - k = (t - (k + 1)) + 1 := by omega
        rw [e]; simp
      · rw [if_neg (by omega), if_neg h2]
def LenAV : AV → Prop
  | .c (.t x) => LenOk x
  | .agg l => ∀ x, CV.t x ∈ l → LenOk x
  | _ => True
theorem lens_of {c : Cx} {H : AHeap} {w : World} {v : Value} {x : AV} (h : VRep c H w v x) : LenAV x := by
  cases h with
  | dead v => trivial
  | c h => cases h with
    | t h => exact h.lens
    | _ => trivial
  | agg cs l h1 h2 =>
    intro x hx
    obtain ⟨i, hi, e⟩ := List.mem_iff_getElem.1 hx
    have := h2 i hi
    have e2 : l.getD i .dead = .t x := by simp [List.getD_eq_getElem?_getD, List.getElem?_eq_getElem hi, e]
    rw [e2] at this
    exact (crep_t this).lens
  | tup vs l h1 h2 => trivial
/-- a function's law, from its body's -/
theorem fx_pure {f : FuncId} {fn : Func} {code : Code} {rs : List ResultVar} (n : Nat) {args : List AV} {r : AV} (hf : P.funcs[f]? = some fn) (hb : fn.body = some code) (hr : fn.results = rs.toArray) (hn : args.length + (fn.ntmps - args.length) = n) (hok : okAL [] args = true) (h : (∀ x ∈ args, LenAV x) → awp P n code (retQ P rs r) ⟨slotsFrom 0 args, []⟩) : FxPure P f args r := by
  intro A w vals hlt hvl hv
  refine calls_of_wp hf hb ?_
  have hS : SlotsRep ⟨fun _ => undef, A⟩ [] w { tmps := vals.toArray ++ Array.replicate (fn.ntmps - vals.toArray.size) undef, defers := [] } (slotsFrom 0 args) := fun t => by
    rw [slotsFrom_get, if_pos (Nat.zero_le _), Nat.sub_zero]
    by_cases ht : t < args.length
    · have := hv t ht
      have e : (vals.toArray ++ Array.replicate (fn.ntmps - vals.toArray.size) undef).getD t undef = vals.getD t undef := by
        have ht' : t < vals.length := by omega
        simp [List.getD_eq_getElem?_getD, Array.getElem?_append, ht']
      rw [e]; exact this
    · have e : args.getD t .dead = .dead := by simp [List.getD_eq_getElem?_getD]; rw [List.getElem?_eq_none (by omega)]; rfl
      rw [e]; exact .dead _
  have hlens : ∀ x ∈ args, LenAV x := fun x hx => by
    obtain ⟨i, hi, e⟩ := List.mem_iff_getElem.1 hx
    have := lens_of (hv i hi)
    simpa [List.getD_eq_getElem?_getD, List.getElem?_eq_getElem hi, e] using this
  have hC : Conc ⟨w, A, fun _ => False, fun _ => undef, []⟩ ⟨fun _ => undef, A⟩ [] w := ⟨fun k o h => (by cases h), fun k k' b h => absurd rfl h, hlt, fun b i h => ⟨id, hlt b i h⟩, fun b i h => h, fun b i h => .inl h, fun k b h => absurd rfl h, fun b _ _ => rfl, rfl, rfl, rfl, Nat.le_refl _, ⟨fun k o h => (by cases h), fun k ty cells h => (by cases h), fun k ty n rows h => (by cases h), fun k ty n rows h => (by cases h)⟩⟩
  have ht : Told n ⟨w, A, fun _ => False, fun _ => undef, []⟩ ⟨slotsFrom 0 args, []⟩ { tmps := vals.toArray ++ Array.replicate (fn.ntmps - vals.toArray.size) undef, defers := [] } w := ⟨⟨_, hC, hS⟩, by simp [hvl]; omega, rfl⟩
  have fin : ∀ a' w' s', Told n ⟨w, A, fun _ => False, fun _ => undef, []⟩ s' a' w' → (∃ xs, ResL P s' rs xs ∧ Coe (resOf xs) r ∧ okAV [] r = true) → a'.defers = [] ∧ ∃ v, (results fn a'.tmps).run P w' = .ok v w' ∧ ∃ v1 A', Ending.returned v = .returned v1 ∧ Grew w w' ∧ (∀ b i, A b i → A' b i) ∧ (∀ b i, A' b i → A b i ∨ (w.heap.size ≤ b ∧ b < w'.heap.size)) ∧ VRep ⟨fun _ => undef, A'⟩ [] w' v1 r := by
    rintro a' w' s' ⟨⟨c', hC', hS'⟩, _, hd⟩ ⟨xs, hx, hco, hkr⟩
    obtain ⟨vs, h1, h2, h3⟩ := resL_run hC' hS' hx
    have hres : (results fn a'.tmps).run P w' = .ok (if h : vs.toArray.size = 1 then vs.toArray[0] else .tuple vs.toArray) w' := by
      unfold results
      rw [hr, Array.mapM_eq_mapM_toList]
      simp only [map_eq_pure_bind, Sem.run_bind]
      erw [h1]
      simp only [Result.andThen_ok, Sem.run_pure]
    have hval : VRep c' s'.hp w' (if h : vs.toArray.size = 1 then vs.toArray[0] else .tuple vs.toArray) (resOf xs) := by
      by_cases h : vs.toArray.size = 1
      · rw [dif_pos h]
        have hx1 : xs.length = 1 := by rw [← h2]; simpa using h
        obtain ⟨x, hx2⟩ := List.length_eq_one_iff.1 hx1
        have hv1 : vs.length = 1 := by simpa using h
        have := h3 0 (by omega)
        rw [hx2] at this ⊢
        simpa [resOf, List.getD_eq_getElem?_getD, hv1] using this
      · rw [dif_neg h]
        have hx1 : xs.length ≠ 1 := by rw [← h2]; simpa using h
        have e : resOf xs = .tup xs := by
          rcases xs with _ | ⟨x, _ | ⟨y, t⟩⟩
          · rfl
          · exact absurd rfl hx1
          · rfl
        rw [e]
        exact .tup vs xs h2 h3
    refine ⟨hd, _, hres, _, c'.A, rfl, ⟨hC'.os, hC'.tape, hC'.output, hC'.size, fun b hb => hC'.keep b hb id⟩, hC'.le, fun b i hb => ?_, ?_⟩
    · rcases hC'.new b i hb with h | h | h
      · exact .inl h
      · exact .inr ⟨h, hC'.lt b i hb⟩
      · exact h.elim
    · exact (hco _ _ _ _ hval).sub (m := fun _ => undef) (A' := c'.A) (H1 := []) (fun k o h => (by cases h)) (fun k o h => (by cases h)) (fun _ _ h => h) hkr
  refine Code.wp_mono (fun e a' w' hq => ?_) (h hlens ⟨w, A, fun _ => False, fun _ => undef, []⟩ _ w ht)
  cases e <;> first | exact hq.elim | skip
  · obtain ⟨s', h1, h2⟩ := hq; exact fin a' w' s' h1 h2
  · obtain ⟨s', h1, h2⟩ := hq; exact h2.elim
  · obtain ⟨s', h1, h2⟩ := hq; exact fin a' w' s' h1 h2
end
end Go.Proofs.YtoebfmhogkjmgaaGreatDoor.Fx
