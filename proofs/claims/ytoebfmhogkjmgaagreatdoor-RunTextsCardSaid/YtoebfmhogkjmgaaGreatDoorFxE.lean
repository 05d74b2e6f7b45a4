/- The single operations that make memory or write; calls; states told with less. No program in sight. -/
import Derived.Test.YtoebfmhogkjmgaaGreatDoorFxD
namespace Go.Proofs.YtoebfmhogkjmgaaGreatDoor.Fx
open Go.RowKit
set_option linter.unusedVariables false
set_option linter.unusedSimpArgs false
mutual
/-- does a cell name nothing but what the heap has? -/
def okC (H : AHeap) : CV → Bool
  | .ptr k _ => (hget H k).isSome
  | .own k _ => (hget H k).isSome
  | .elo k _ _ _ => (hget H k).isSome
  | .cown k _ => (hget H k).isSome
  | .celo k _ _ _ => (hget H k).isSome
  | .fn _ a b => okL H a && okL H b
  | _ => true
def okL (H : AHeap) : List CV → Bool
  | [] => true
  | x :: t => okC H x && okL H t
end
mutual
def okAV (H : AHeap) : AV → Bool
  | .c x => okC H x
  | .agg l => okL H l
  | .tup l => okAL H l
  | .dead => true
def okAL (H : AHeap) : List AV → Bool
  | [] => true
  | x :: t => okAV H x && okAL H t
end
theorem okL_get {H : AHeap} : ∀ (l : List CV) (i : Nat), okL H l = true → okC H (l.getD i .dead) = true := by
  intro l
  induction l with
  | nil => intro i _; simp [okC]
  | cons x t ih =>
    intro i h
    simp only [okL, Bool.and_eq_true] at h
    cases i with
    | zero => simpa using h.1
    | succ i => simpa using ih i h.2
theorem okAL_get {H : AHeap} : ∀ (l : List AV) (i : Nat), okAL H l = true → okAV H (l.getD i .dead) = true := by
  intro l
  induction l with
  | nil => intro i _; simp [okAV]
  | cons x t ih =>
    intro i h
    simp only [okAL, Bool.and_eq_true] at h
    cases i with
    | zero => simpa using h.1
    | succ i => simpa using ih i h.2
theorem CRep.sub {c : Cx} {m : Nat → Value} {A' : Nat → Nat → Prop} {H H1 : AHeap} {w : World} (hs : SubH H1 H) (hm : ∀ k o, hget H1 k = some o → m k = c.m k) (hA : ∀ b i, c.A b i → A' b i) {v : Value} {x : CV} (h : CRep c H w v x) : okC H1 x = true → CRep ⟨m, A'⟩ H1 w v x := by
  have hmono : ∀ {v x}, TRep c.A w v x → TRep A' w v x := fun h => h.mono (fun b i v h1 h2 => ⟨hA _ _ h1, h2⟩)
  induction h with
  | dead v h => intro _; exact .dead v h
  | t h => intro _; exact .t (hmono h)
  | z a => intro _; exact .z a
  | ab b => intro _; exact .ab b
  | ptr ho hmk =>
    intro hok
    simp only [okC] at hok
    obtain ⟨o', ho'⟩ := Option.isSome_iff_exists.1 hok
    have e := hs _ _ ho'
    rw [ho] at e; injection e with e; subst e
    exact .ptr ho' ((hm _ _ ho').trans hmk)
  | own ho h1 hl hv =>
    intro hok
    simp only [okC] at hok
    obtain ⟨o', ho'⟩ := Option.isSome_iff_exists.1 hok
    have e := hs _ _ ho'
    rw [ho] at e; injection e with e; subst e
    exact .own ho' h1 hl (fun e => by rw [hv e]; exact (hm _ _ ho').symm)
  | el vs hc hr => intro _; exact .el vs (fun j hj => ⟨hA _ _ (hc j hj).1, (hc j hj).2⟩) (fun j hj => hmono (hr j hj))
  | elo ho h1 hl hv =>
    intro hok
    simp only [okC] at hok
    obtain ⟨o', ho'⟩ := Option.isSome_iff_exists.1 hok
    have e := hs _ _ ho'
    rw [ho] at e; injection e with e; subst e
    exact .elo ho' h1 hl (fun e => by
      obtain ⟨h2, b, cap, h3, h4⟩ := hv e
      exact ⟨h2, b, cap, (hm _ _ ho').trans h3, h4⟩)
  | cown ho h1 hl hv =>
    intro hok
    simp only [okC] at hok
    obtain ⟨o', ho'⟩ := Option.isSome_iff_exists.1 hok
    have e := hs _ _ ho'
    rw [ho] at e; injection e with e; subst e
    exact .cown ho' h1 hl (fun e => by rw [hv e]; exact (hm _ _ ho').symm)
  | celo ho h1 hl hv =>
    intro hok
    simp only [okC] at hok
    obtain ⟨o', ho'⟩ := Option.isSome_iff_exists.1 hok
    have e := hs _ _ ho'
    rw [ho] at e; injection e with e; subst e
    exact .celo ho' h1 hl (fun e => by
      obtain ⟨h2, b, cap, h3, h4⟩ := hv e
      exact ⟨h2, b, cap, (hm _ _ ho').trans h3, h4⟩)
  | fn f fs cs vs us h1 h2 hf hc ihf ihc =>
    intro hok
    simp only [okC, Bool.and_eq_true] at hok
    exact .fn f fs cs vs us h1 h2 (fun i hi => ihf i hi (okL_get _ _ hok.1)) (fun i hi => ihc i hi (okL_get _ _ hok.2))
theorem VRep.sub {c : Cx} {m : Nat → Value} {A' : Nat → Nat → Prop} {H H1 : AHeap} {w : World} (hs : SubH H1 H) (hm : ∀ k o, hget H1 k = some o → m k = c.m k) (hA : ∀ b i, c.A b i → A' b i) {v : Value} {x : AV} (h : VRep c H w v x) : okAV H1 x = true → VRep ⟨m, A'⟩ H1 w v x := by
  induction h with
  | dead v => intro _; exact .dead v
  | c h => intro hok; exact .c (h.sub hs hm hA hok)
  | agg cs l h1 h => intro hok; exact .agg cs l h1 (fun i hi => (h i hi).sub hs hm hA (okL_get _ _ hok))
  | tup vs l h1 h ih => intro hok; exact .tup vs l h1 (fun i hi => ih i hi (okAL_get _ _ hok))
/-- what holds whatever x is told of holds of y -/
def Coe (x y : AV) : Prop := ∀ c H w v, VRep c H w v x → VRep c H w v y
theorem Coe.refl (x : AV) : Coe x x := fun _ _ _ _ h => h
theorem Coe.dead (x : AV) : Coe x .dead := fun _ _ _ v _ => .dead v
def CoeC (x y : CV) : Prop := ∀ c H w v, CRep c H w v x → CRep c H w v y
theorem CoeC.refl (x : CV) : CoeC x x := fun _ _ _ _ h => h
theorem CoeC.dead (x : CV) : CoeC x .dead := fun _ _ _ v h => .dead v h.one
theorem CoeC.nil : CoeC (.t (.v (.slice none 0 0))) (.t (.s [])) := fun c H w v h => by
  cases h with
  | t h => cases h with
    | v x _ => exact .t (.e none 0)
theorem CoeC.z : CoeC .z (.t (.s [])) := fun c H w v h => by
  cases h with
  | z a => exact .t (.e a 0)
theorem Coe.c {x y : CV} (h : CoeC x y) : Coe (.c x) (.c y) := fun c H w v hv => by
  cases hv with
  | c hv => exact .c (h _ _ _ _ hv)
inductive CoeL : List CV → List CV → Prop where
  | nil : CoeL [] []
  | cons {x y : CV} {l k : List CV} (h : CoeC x y) (t : CoeL l k) : CoeL (x :: l) (y :: k)
theorem CoeL.get {l k : List CV} (h : CoeL l k) : l.length = k.length ∧ ∀ i, i < k.length → CoeC (l.getD i .dead) (k.getD i .dead) := by
  induction h with
  | nil => exact ⟨rfl, fun i hi => absurd hi (Nat.not_lt_zero _)⟩
  | cons h t ih =>
    refine ⟨by simp [ih.1], fun i hi => ?_⟩
    cases i with
    | zero => simpa using h
    | succ i => simpa using ih.2 i (by simpa using hi)
theorem Coe.agg {l k : List CV} (h : CoeL l k) : Coe (.agg l) (.agg k) := fun c H w v hv => by
  cases hv with
  | agg cs l h1 h2 => exact .agg cs _ (h1.trans h.get.1) (fun i hi => h.get.2 i hi _ _ _ _ (h2 i (by rw [h.get.1]; exact hi)))
inductive CoeA : List AV → List AV → Prop where
  | nil : CoeA [] []
  | cons {x y : AV} {l k : List AV} (h : Coe x y) (t : CoeA l k) : CoeA (x :: l) (y :: k)
theorem CoeA.get {l k : List AV} (h : CoeA l k) : l.length = k.length ∧ ∀ i, i < k.length → Coe (l.getD i .dead) (k.getD i .dead) := by
  induction h with
  | nil => exact ⟨rfl, fun i hi => absurd hi (Nat.not_lt_zero _)⟩
  | cons h t ih =>
    refine ⟨by simp [ih.1], fun i hi => ?_⟩
    cases i with
    | zero => simpa using h
    | succ i => simpa using ih.2 i (by simpa using hi)
theorem Coe.tup {l k : List AV} (h : CoeA l k) : Coe (.tup l) (.tup k) := fun c H w v hv => by
  cases hv with
  | tup cs l h1 h2 => exact .tup cs _ (h1.trans h.get.1) (fun i hi => h.get.2 i hi _ _ _ _ (h2 i (by rw [h.get.1]; exact hi)))
/-- a new object -/
theorem Conc.fresh0 {E : Ent} {c : Cx} {H : AHeap} {w : World} (hC : Conc E c H w) (k : Nat) (o : AObj) (hk : ∀ o', hget H k = some o' → blk (c.m k) = none ∧ ∃ ty n rows rows', o' = .row ty n rows ∧ o = .row ty n rows' ∧ rows.length < rows'.length) (val : Value) (cs : Array Value) (ty : TypeId) (hb : ∀ b, blk val = some b → b = w.heap.size)
    (ho : Later c H w ⟨fun j => if j = k then val else c.m j, c.A⟩ (hset H k o) (w.alloc (.cells cs ty)) → ObjRep ⟨fun j => if j = k then val else c.m j, c.A⟩ (hset H k o) (w.alloc (.cells cs ty)) k o) :
    Conc E ⟨fun j => if j = k then val else c.m j, c.A⟩ (hset H k o) (w.alloc (.cells cs ty)) ∧ Later c H w ⟨fun j => if j = k then val else c.m j, c.A⟩ (hset H k o) (w.alloc (.cells cs ty)) := by
  have hg : Grew w (w.alloc (.cells cs ty)) := Grew.of_below ((Below.refl _ _).alloc (Nat.le_refl _) _)
  have hl : Later c H w ⟨fun j => if j = k then val else c.m j, c.A⟩ (hset H k o) (w.alloc (.cells cs ty)) := by
    refine ⟨fun j t cells h => ?_, fun j t n rows h => ?_, fun j t n rows h => ?_, fun b i v h1 h2 => ⟨h1, hg.cell h2⟩⟩
    · have e : j ≠ k := fun e => by
        subst e
        obtain ⟨_, _, _, _, _, e1, _⟩ := hk _ h
        cases e1
      exact ⟨cells, by rw [hget_hset, if_neg (Ne.symm e)]; exact h, if_neg e⟩
    · by_cases e : j = k
      · subst e
        obtain ⟨_, t', n', r1, r2, e1, e2, e3⟩ := hk _ h
        injection e1 with a1 a2 a3
        subst a1; subst a2; subst a3
        exact ⟨r2, by rw [hget_hset, if_pos rfl, e2], .inr e3⟩
      · exact ⟨rows, by rw [hget_hset, if_neg (Ne.symm e)]; exact h, .inl ⟨rfl, if_neg e⟩⟩
    · have e : j ≠ k := fun e => by
        subst e
        obtain ⟨_, _, _, _, _, e1, _⟩ := hk _ h
        cases e1
      exact ⟨rows, by rw [hget_hset, if_neg (Ne.symm e)]; exact h, .inl ⟨rfl, if_neg e⟩⟩
  refine ⟨⟨fun j o' h => ?_, fun j j' b h h' hb1 hb2 => ?_, fun b i h => Nat.lt_of_lt_of_le (hC.lt b i h) hg.size, hC.ent, hC.le, hC.new, fun j b h hb1 => ?_, fun b h1 h2 => ?_, hC.os, hC.tape, hC.output, Nat.le_trans hC.size hg.size, hC.pin.step hl⟩, hl⟩
  · rw [hget_hset] at h
    by_cases e : k = j
    · rw [if_pos e] at h; injection h with h; subst h; subst e; exact ho hl
    · rw [if_neg e] at h
      have h0 := hC.obj j o' h
      exact h0.later hl (if_neg (fun x => e x.symm)) (fun b hb => hg.block b (h0.blk_lt hb)) (fun b i hb => h0.noA hb i)
  · have key : ∀ j b, hget (hset H k o) j ≠ none → j ≠ k → blk ((fun j => if j = k then val else c.m j) j) = some b → hget H j ≠ none ∧ blk (c.m j) = some b ∧ b < w.heap.size := fun j b h1 h2 h3 => by
      rw [hget_hset, if_neg (Ne.symm h2)] at h1
      have h3' : blk (if j = k then val else c.m j) = some b := h3
      rw [if_neg h2] at h3'
      cases ho' : hget H j with
      | none => exact absurd ho' h1
      | some o' => exact ⟨by simp, h3', (hC.obj j o' ho').blk_lt h3'⟩
    by_cases e : j = k <;> by_cases e' : j' = k
    · rw [e, e']
    · have h1 := key j' b h' e' hb2
      simp only [e, if_true] at hb1
      have := hb b hb1
      omega
    · have h1 := key j b h e hb1
      simp only [e', if_true] at hb2
      have := hb b hb2
      omega
    · have h1 := key j b h e hb1
      have h2 := key j' b h' e' hb2
      exact hC.inj j j' b h1.1 h2.1 h1.2.1 h2.2.1
  · by_cases e : j = k
    · subst e
      simp only [if_true] at hb1
      right
      rw [hb b hb1]; exact hC.size
    · rw [hget_hset, if_neg (Ne.symm e)] at h
      simp only [if_neg e] at hb1
      exact hC.own j b h hb1
  · rw [hg.block b (Nat.lt_of_lt_of_le h1 hC.size)]; exact hC.keep b h1 h2
theorem Conc.fresh {E : Ent} {c : Cx} {H : AHeap} {w : World} (hC : Conc E c H w) (k : Nat) (hk : hget H k = none) (o : AObj) (val : Value) (cs : Array Value) (ty : TypeId) (hb : ∀ b, blk val = some b → b = w.heap.size)
    (ho : Later c H w ⟨fun j => if j = k then val else c.m j, c.A⟩ (hset H k o) (w.alloc (.cells cs ty)) → ObjRep ⟨fun j => if j = k then val else c.m j, c.A⟩ (hset H k o) (w.alloc (.cells cs ty)) k o) :
    Conc E ⟨fun j => if j = k then val else c.m j, c.A⟩ (hset H k o) (w.alloc (.cells cs ty)) ∧ Later c H w ⟨fun j => if j = k then val else c.m j, c.A⟩ (hset H k o) (w.alloc (.cells cs ty)) :=
  hC.fresh0 k o (fun o' h => by rw [hk] at h; cases h) val cs ty hb ho
/-- a row without room -/
theorem Conc.adopt {E : Ent} {c : Cx} {H : AHeap} {w : World} (hC : Conc E c H w) (k : Nat) (hk : hget H k = none) (e : TypeId) (n : Nat) (hn : 0 < n) (a : Option Addr) :
    Conc E ⟨fun j => if j = k then .slice a 0 0 else c.m j, c.A⟩ (hset H k (.row e n [])) w ∧ Later c H w ⟨fun j => if j = k then .slice a 0 0 else c.m j, c.A⟩ (hset H k (.row e n [])) w ∧ CRep ⟨fun j => if j = k then .slice a 0 0 else c.m j, c.A⟩ (hset H k (.row e n [])) w (.slice a 0 0) (.own k 0) := by
  have hbz : blk (.slice a 0 0) = none := by cases a <;> rfl
  have hne : ∀ j o', hget H j = some o' → j ≠ k := fun j o' h e => by rw [e, hk] at h; cases h
  have hl : Later c H w ⟨fun j => if j = k then .slice a 0 0 else c.m j, c.A⟩ (hset H k (.row e n [])) w :=
    ⟨fun j t cells h => ⟨cells, by rw [hget_hset, if_neg (Ne.symm (hne j _ h))]; exact h, if_neg (hne j _ h)⟩,
     fun j t n rows h => ⟨rows, by rw [hget_hset, if_neg (Ne.symm (hne j _ h))]; exact h, .inl ⟨rfl, if_neg (hne j _ h)⟩⟩,
     fun j t n rows h => ⟨rows, by rw [hget_hset, if_neg (Ne.symm (hne j _ h))]; exact h, .inl ⟨rfl, if_neg (hne j _ h)⟩⟩,
     fun b i v h1 h2 => ⟨h1, h2⟩⟩
  have hbk : ∀ j b, hget (hset H k (.row e n [])) j ≠ none → blk (if j = k then (.slice a 0 0 : Value) else c.m j) = some b → j ≠ k ∧ hget H j ≠ none ∧ blk (c.m j) = some b := fun j b h1 h2 => by
    by_cases e1 : j = k
    · rw [if_pos e1, hbz] at h2; cases h2
    · rw [if_neg e1] at h2
      rw [hget_hset, if_neg (Ne.symm e1)] at h1
      exact ⟨e1, h1, h2⟩
  refine ⟨⟨fun j o' h => ?_, fun j j' b h1 h2 b1 b2 => ?_, hC.lt, hC.ent, hC.le, hC.new, fun j b h1 b1 => ?_, hC.keep, hC.os, hC.tape, hC.output, hC.size, hC.pin.step hl⟩, hl, .own (by rw [hget_hset, if_pos rfl]) rfl (Nat.le_refl _) (fun _ => (if_pos rfl).symm)⟩
  · rw [hget_hset] at h
    by_cases e1 : k = j
    · rw [if_pos e1] at h; injection h with h; subst h; subst e1
      refine ⟨hn, [], .inl ⟨a, if_pos rfl, rfl, rfl⟩, fun i hi => absurd hi (Nat.not_lt_zero _), fun b hb => ?_⟩
      have hb' : blk (if k = k then (.slice a 0 0 : Value) else c.m k) = some b := hb
      rw [if_pos rfl, hbz] at hb'; cases hb'
    · rw [if_neg e1] at h
      have h0 := hC.obj j o' h
      exact h0.later hl (if_neg (fun x => e1 x.symm)) (fun b hb => rfl) (fun b i hb => h0.noA hb i)
  · obtain ⟨_, g1, g2⟩ := hbk j b h1 b1
    obtain ⟨_, g3, g4⟩ := hbk j' b h2 b2
    exact hC.inj j j' b g1 g3 g2 g4
  · obtain ⟨_, g1, g2⟩ := hbk j b h1 b1
    exact hC.own j b g1 g2
/-- the same of a row whose cells lead to what is the call's own -/
theorem Conc.cadopt {E : Ent} {c : Cx} {H : AHeap} {w : World} (hC : Conc E c H w) (k : Nat) (hk : hget H k = none) (e : TypeId) (n : Nat) (hn : 0 < n) (a : Option Addr) :
    Conc E ⟨fun j => if j = k then .slice a 0 0 else c.m j, c.A⟩ (hset H k (.crow e n [])) w ∧ Later c H w ⟨fun j => if j = k then .slice a 0 0 else c.m j, c.A⟩ (hset H k (.crow e n [])) w ∧ CRep ⟨fun j => if j = k then .slice a 0 0 else c.m j, c.A⟩ (hset H k (.crow e n [])) w (.slice a 0 0) (.cown k 0) := by
  have hbz : blk (.slice a 0 0) = none := by cases a <;> rfl
  have hne : ∀ j o', hget H j = some o' → j ≠ k := fun j o' h e => by rw [e, hk] at h; cases h
  have hl : Later c H w ⟨fun j => if j = k then .slice a 0 0 else c.m j, c.A⟩ (hset H k (.crow e n [])) w :=
    ⟨fun j t cells h => ⟨cells, by rw [hget_hset, if_neg (Ne.symm (hne j _ h))]; exact h, if_neg (hne j _ h)⟩,
     fun j t n rows h => ⟨rows, by rw [hget_hset, if_neg (Ne.symm (hne j _ h))]; exact h, .inl ⟨rfl, if_neg (hne j _ h)⟩⟩,
     fun j t n rows h => ⟨rows, by rw [hget_hset, if_neg (Ne.symm (hne j _ h))]; exact h, .inl ⟨rfl, if_neg (hne j _ h)⟩⟩,
     fun b i v h1 h2 => ⟨h1, h2⟩⟩
  have hbk : ∀ j b, hget (hset H k (.crow e n [])) j ≠ none → blk (if j = k then (.slice a 0 0 : Value) else c.m j) = some b → j ≠ k ∧ hget H j ≠ none ∧ blk (c.m j) = some b := fun j b h1 h2 => by
    by_cases e1 : j = k
    · rw [if_pos e1, hbz] at h2; cases h2
    · rw [if_neg e1] at h2
      rw [hget_hset, if_neg (Ne.symm e1)] at h1
      exact ⟨e1, h1, h2⟩
  refine ⟨⟨fun j o' h => ?_, fun j j' b h1 h2 b1 b2 => ?_, hC.lt, hC.ent, hC.le, hC.new, fun j b h1 b1 => ?_, hC.keep, hC.os, hC.tape, hC.output, hC.size, hC.pin.step hl⟩, hl, .cown (by rw [hget_hset, if_pos rfl]) rfl (Nat.le_refl _) (fun _ => (if_pos rfl).symm)⟩
  · rw [hget_hset] at h
    by_cases e1 : k = j
    · rw [if_pos e1] at h; injection h with h; subst h; subst e1
      refine ⟨hn, [], .inl ⟨a, if_pos rfl, rfl, rfl⟩, fun i hi => absurd hi (Nat.not_lt_zero _), fun b hb => ?_⟩
      have hb' : blk (if k = k then (.slice a 0 0 : Value) else c.m k) = some b := hb
      rw [if_pos rfl, hbz] at hb'; cases hb'
    · rw [if_neg e1] at h
      have h0 := hC.obj j o' h
      exact h0.later hl (if_neg (fun x => e1 x.symm)) (fun b hb => rfl) (fun b i hb => h0.noA hb i)
  · obtain ⟨_, g1, g2⟩ := hbk j b h1 b1
    obtain ⟨_, g3, g4⟩ := hbk j' b h2 b2
    exact hC.inj j j' b g1 g3 g2 g4
  · obtain ⟨_, g1, g2⟩ := hbk j b h1 b1
    exact hC.own j b g1 g2
section
variable {P : Program} {dst : Option Tmp} {ty0 : TypeId} {pos : String} {af : Array Edge} {g : Option (Nat × Bool)} {ρ : Operand → AV} {H : AHeap}
theorem heap_new (w : World) (o : Obj) : (w.alloc o).heap[w.heap.size]? = some o := heap_alloc_new w o
/-- a new variable -/
theorem Conc.newVar {E : Ent} {c : Cx} {H : AHeap} {w : World} (hC : Conc E c H w) (k : Nat) (hk : hget H k = none) (ty : TypeId) (cs : List Value) (cells : List CV) (hl : cs.length = cells.length) (h : ∀ i, i < cells.length → CRep c H w (cs.getD i undef) (cells.getD i .dead)) :
    ∃ c', Conc E c' (hset H k (.var ty cells)) (w.alloc (.cells cs.toArray ty)) ∧ Later c H w c' (hset H k (.var ty cells)) (w.alloc (.cells cs.toArray ty)) ∧ CRep c' (hset H k (.var ty cells)) (w.alloc (.cells cs.toArray ty)) (.pointer (some ⟨w.heap.size, 0, none⟩)) (.ptr k 0) := by
  obtain ⟨h1, h2⟩ := hC.fresh k hk (.var ty cells) (.pointer (some ⟨w.heap.size, 0, none⟩)) cs.toArray ty (fun b hb => by injection hb with hb; exact hb.symm) (fun hlat =>
    ⟨w.heap.size, cs.toArray, if_pos rfl, heap_new w _, by simpa using hl, fun i hi => by
      have := (h i hi).later hlat
      simpa using this, fun i hA => by have := hC.lt _ _ hA; omega⟩)
  exact ⟨_, h1, h2, .ptr (by rw [hget_hset, if_pos rfl]) (if_pos rfl)⟩
theorem zro_run {ty : TypeId} {l : List Value} (h : (P.info? ty).map (fun i => i.zero.map (fun z => z.cells.toList)) = some (some l)) (w : World) : ∃ z : Value, z.cells.toList = l ∧ (zeroValue ty).run P w = .ok z w := by
  cases hi : P.info? ty with
  | none => rw [hi] at h; cases h
  | some i =>
    rw [hi] at h
    simp only [Option.map_some, Option.some.injEq] at h
    cases hz : i.zero with
    | none => rw [hz] at h; cases h
    | some z =>
      rw [hz] at h
      simp only [Option.map_some, Option.some.injEq] at h
      exact ⟨z, h, by simp [zeroValue, typeInfo, hi, hz]⟩
theorem step_alloc (k : Nat) (ty : TypeId) {l : List Value} [hZ : Zro P ty l] (hk : hget H k = none) : StepK P .w ⟨dst, .alloc ty, ty0, pos, af, g⟩ ρ H (hset H k (.var ty (l.map fun x => .t (.v x)))) (.c (.ptr k 0)) := by
  intro E c a w K Q hC hx hK
  obtain ⟨z, h1, h2⟩ := zro_run hZ.h w
  obtain ⟨c', g1, g2, g3⟩ := hC.newVar k hk ty l (l.map fun x => .t (.v x)) (by simp) (fun i hi => by
    have hi' : i < l.length := by simpa using hi
    have e1 : (l.map fun x => CV.t (.v x)).getD i .dead = .t (.v l[i]) := by simp [List.getD_eq_getElem?_getD, List.getElem?_map, List.getElem?_eq_getElem hi']
    have e2 : l.getD i undef = l[i] := by simp [List.getD_eq_getElem?_getD, List.getElem?_eq_getElem hi']
    rw [e1, e2]
    exact .t (.v _ (List.all_eq_true.1 hZ.one _ (List.getElem_mem hi'))))
  have hrun : (execOp a.eval ⟨dst, .alloc ty, ty0, pos, af, g⟩).run P w = .ok (.value (.pointer (some ⟨w.heap.size, 0, none⟩))) (w.alloc (.cells l.toArray ty)) := by
    have e : z.cells = l.toArray := by rw [← h1]
    simp [execOp, Instr.alloc, h2, Go.newVar, newRow, newObj, Sem.run, e]
  unfold Oper.wp
  rw [hrun]
  exact hK _ c' _ g1 g2 (.c g3)
/-- a value's cells -/
def cellsAV : AV → Option (List CV)
  | .c x => some [x]
  | .agg l => some l
  | _ => none
theorem cells_rep {c : Cx} {H : AHeap} {w : World} {v : Value} {x : AV} {l : List CV} (h : VRep c H w v x) (hl : cellsAV x = some l) : v.cells.size = l.length ∧ (∀ i, i < l.length → CRep c H w (v.cells.toList.getD i undef) (l.getD i .dead)) := by
  cases h with
  | c h =>
    rename_i x
    injection hl with hl; subst hl
    have h1 := h.one
    have e : v.cells = #[v] := by cases v <;> first | rfl | cases h1
    rw [e]
    refine ⟨rfl, fun i hi => ?_⟩
    have : i = 0 := by simpa using hi
    subst this
    simpa using h
  | agg cs l h1 h2 =>
    injection hl with hl; subst hl
    exact ⟨by simpa [Value.cells] using h1, fun i hi => by simpa [Value.cells] using h2 i hi⟩
  | _ => cases hl
theorem step_box (k : Nat) (ty : TypeId) (x : Operand) {l : List CV} (hk : hget H k = none) (hx : cellsAV (ρ x) = some l) : StepK P .w ⟨dst, .box ty x, ty0, pos, af, g⟩ ρ H (hset H k (.var ty l)) (.c (.ptr k 0)) := by
  intro E c a w K Q hC hx' hK
  obtain ⟨h1, h2⟩ := cells_rep (hx' x (by simp [Op.operands])) hx
  obtain ⟨c', g1, g2, g3⟩ := hC.newVar k hk ty (a.eval x).cells.toList l (by simpa using h1) h2
  have hrun : (execOp a.eval ⟨dst, .box ty x, ty0, pos, af, g⟩).run P w = .ok (.value (.pointer (some ⟨w.heap.size, 0, none⟩))) (w.alloc (.cells (a.eval x).cells.toList.toArray ty)) := by
    simp [execOp, Instr.box, Go.newVar, newRow, newObj, Sem.run]
  unfold Oper.wp
  rw [hrun]
  exact hK _ c' _ g1 g2 (.c g3)
/-- cells put in the place of others -/
def splice {α : Type} (l : List α) (i : Nat) (xs : List α) : List α := l.take i ++ xs ++ l.drop (i + xs.length)
theorem splice_getD {α : Type} (l : List α) (i : Nat) (xs : List α) (h : i + xs.length ≤ l.length) (j : Nat) (d : α) : (splice l i xs).getD j d = if i ≤ j ∧ j < i + xs.length then xs.getD (j - i) d else l.getD j d := by
  unfold splice
  simp only [List.getD_eq_getElem?_getD]
  rw [List.append_assoc]
  by_cases h1 : j < i
  · rw [List.getElem?_append_left (by simp; omega), List.getElem?_take, if_pos h1, if_neg (by omega)]
  · rw [List.getElem?_append_right (by simp; omega)]
    have e : min i l.length = i := by omega
    rw [List.length_take, e]
    by_cases h2 : j < i + xs.length
    · rw [List.getElem?_append_left (by omega), if_pos ⟨by omega, h2⟩]
    · rw [List.getElem?_append_right (by omega), List.getElem?_drop, if_neg (by omega)]
      congr 2; omega
theorem splice_length {α : Type} (l : List α) (i : Nat) (xs : List α) (h : i + xs.length ≤ l.length) : (splice l i xs).length = l.length := by
  unfold splice; simp; omega
/-- a variable's cells, written -/
theorem Conc.writeVar {E : Ent} {c : Cx} {H : AHeap} {w w' : World} (hC : Conc E c H w) {k b : Nat} {ty : TypeId} {cells cells' : List CV} (hk : hget H k = some (.var ty cells)) (hm : c.m k = .pointer (some ⟨b, 0, none⟩)) (cs' : List Value)
    (hh : ∀ j, j ≠ b → w'.heap[j]? = w.heap[j]?) (hb : w'.heap[b]? = some (.cells cs'.toArray ty (0, 0))) (hsz : w'.heap.size = w.heap.size) (h1 : w'.os = w.os) (h2 : w'.tape = w.tape) (h3 : w'.output = w.output)
    (hl : cs'.length = cells'.length) (hr : ∀ i, i < cells'.length → CRep c H w (cs'.getD i undef) (cells'.getD i .dead)) :
    Conc E c (hset H k (.var ty cells')) w' ∧ Later c H w c (hset H k (.var ty cells')) w' := by
  have hkb : blk (c.m k) = some b := by rw [hm]; rfl
  have hnA := (hC.obj k _ hk).noA hkb
  have hlat : Later c H w c (hset H k (.var ty cells')) w' := by
    refine ⟨fun j t cl h => ?_, fun j t n rows h => ?_, fun j t n rows h => ?_, fun b' i v g1 g2 => ⟨g1, ?_⟩⟩
    · by_cases e : k = j
      · subst e; rw [hk] at h; injection h with h; injection h with e1 e2
        exact ⟨cells', by rw [hget_hset, if_pos rfl, e1], rfl⟩
      · exact ⟨cl, by rw [hget_hset, if_neg e]; exact h, rfl⟩
    · by_cases e : k = j
      · subst e; rw [hk] at h; cases h
      · exact ⟨rows, by rw [hget_hset, if_neg e]; exact h, .inl ⟨rfl, rfl⟩⟩
    · by_cases e : k = j
      · subst e; rw [hk] at h; cases h
      · exact ⟨rows, by rw [hget_hset, if_neg e]; exact h, .inl ⟨rfl, rfl⟩⟩
    · have hne : b' ≠ b := fun e => hnA i (e ▸ g1)
      rw [World.cell?_of_block (w := w) (a := ⟨b', i, none⟩) (hh b' hne)]; exact g2
  refine ⟨⟨fun j o h => ?_, fun j j' b' g1 g2 => hC.inj j j' b' ?_ ?_, fun b' i h => by rw [hsz]; exact hC.lt b' i h, hC.ent, hC.le, hC.new, fun j b' h hb' => hC.own j b' ?_ hb', fun b' g1 g2 => ?_, h1.trans hC.os, h2.trans hC.tape, h3.trans hC.output, by rw [hsz]; exact hC.size, hC.pin.step hlat⟩, hlat⟩
  · rw [hget_hset] at h
    by_cases e : k = j
    · rw [if_pos e] at h; injection h with h; subst h; subst e
      exact ⟨b, cs'.toArray, hm, hb, by simpa using hl, fun i hi => by simpa using (hr i hi).later hlat, hnA⟩
    · rw [if_neg e] at h
      have h0 := hC.obj j o h
      refine h0.later hlat rfl (fun b' hb' => hh b' (fun e2 => ?_)) (fun b' i hb' => h0.noA hb' i)
      subst e2
      exact e (hC.inj k j b' (by rw [hk]; simp) (by rw [h]; simp) hkb hb')
  · rw [hget_hset] at g1; split at g1
    · rename_i e; subst e; rw [hk]; simp
    · exact g1
  · rw [hget_hset] at g2; split at g2
    · rename_i e; subst e; rw [hk]; simp
    · exact g2
  · rw [hget_hset] at h; split at h
    · rename_i e; subst e; rw [hk]; simp
    · exact h
  · have hne : b' ≠ b := by
      rintro rfl
      rcases hC.own k b' (by rw [hk]; simp) hkb with h | h
      · exact g2 h
      · omega
    rw [hh b' hne]; exact hC.keep b' g1 g2
theorem step_store_ptr (ty : TypeId) (x y : Operand) {agg : Bool} {n : Nat} [hS : Shp P ty agg n] {k i : Nat} {vt : TypeId} {cells l : List CV} (hx : ρ x = .c (.ptr k i)) (ho : hget H k = some (.var vt cells)) (hy : cellsAV (ρ y) = some l) (hl : l.length = n) (hi : i + n ≤ cells.length) :
    StepK P .w ⟨dst, .store ty x y, ty0, pos, af, g⟩ ρ H (hset H k (.var vt (splice cells i l))) (.tup []) := by
  intro E c a w K Q hC hxx hK
  have hv := hxx x (by simp [Op.operands])
  rw [hx] at hv
  obtain ⟨b, ty', cells', e, ho', hm⟩ := cptr hv
  obtain ⟨b', cs, g1, g2, g3, g4, g5⟩ := hC.obj k _ ho
  have hbb : b' = b := by rw [hm] at g1; injection g1 with g1; injection g1 with g1; injection g1 with g1; exact g1.symm
  subst hbb
  obtain ⟨q1, q2⟩ := cells_rep (hxx y (by simp [Op.operands])) hy
  have hone : ∀ v ∈ (a.eval y).cells.toList, v.oneCell' = true := fun v hv => by
    obtain ⟨j, hj, rfl⟩ := List.mem_iff_getElem.1 hv
    have hj' : j < l.length := by rw [← q1]; simpa using hj
    have := (q2 j hj').one
    simpa [List.getD_eq_getElem?_getD, List.getElem?_eq_getElem hj] using this
  have hrun := run_storeCells_at (P := P) b' i vt (a.eval y).cells.toList 0 cs w g2 (by simp; omega) hone
  have hexec : (execOp a.eval ⟨dst, .store ty x y, ty0, pos, af, g⟩).run P w = .ok .skip (w.setRow b' (splice cs.toList i (a.eval y).cells.toList).toArray) := by
    simp only [execOp, e, Instr.storeAt, Instr.sureAddr, storeVar, Sem.run_bind, Sem.run_pure, Result.andThen_ok, Shp.size hS.h]
    rw [if_neg (by simp; omega)]
    rw [hrun]
    simp [splice, Result.andThen]
  unfold Oper.wp
  rw [hexec]
  have hlen : i + (a.eval y).cells.toList.length ≤ cs.toList.length := by simp; omega
  have hset' : (w.setRow b' (splice cs.toList i (a.eval y).cells.toList).toArray).heap[b']? = some (.cells (splice cs.toList i (a.eval y).cells.toList).toArray vt (0, 0)) := setRow_heap w b' cs _ vt _ g2
  obtain ⟨k1, k2⟩ := hC.writeVar (w' := w.setRow b' (splice cs.toList i (a.eval y).cells.toList).toArray) (cells' := splice cells i l) ho hm (splice cs.toList i (a.eval y).cells.toList)
    (fun j hj => setRow_other w b' j _ hj) hset' (by simp) rfl rfl rfl (by rw [splice_length _ _ _ hlen, splice_length _ _ _ (by omega)]; simpa using g3) (fun j hj => by
      rw [splice_length _ _ _ (by omega)] at hj
      rw [splice_getD _ _ _ hlen, splice_getD _ _ _ (by omega)]
      have e1 : (a.eval y).cells.toList.length = l.length := by simpa using q1
      rw [e1]
      split
      · rename_i hj2; exact q2 _ (by omega)
      · have := g4 j hj; simpa using this)
  exact hK undef _ _ k1 k2 (.tup [] [] rfl (fun i hi => absurd hi (Nat.not_lt_zero _)))
end
end Go.Proofs.YtoebfmhogkjmgaaGreatDoor.Fx
