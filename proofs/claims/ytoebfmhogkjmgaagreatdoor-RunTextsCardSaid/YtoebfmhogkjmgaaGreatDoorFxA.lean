/- Data in memory as trees, and what a call's slots and variables hold, told without addresses. No program in sight. -/
import Derived.Test.YtoebfmhogkjmgaaGreatDoorOwn
import Derived.Test.YtoebfmhogkjmgaaGreatDoorVar
import Derived.Deep.AppendLies
import Derived.Deep.AppendSrc
import Derived.Laws.MakeOwn
namespace Go.Proofs.YtoebfmhogkjmgaaGreatDoor.Fx
open Go.RowKit
set_option linter.unusedVariables false
set_option linter.unusedSimpArgs false
/-- data that nobody changes: a value of one cell, a slice (each element's cells), a pointer to cells -/
inductive T where
  | v (x : Value)
  | s (rows : List (List T))
  | p (row : List T)
instance : Inhabited T := ⟨.v undef⟩
/-- what a cell holds: a tree, a pointer into one of the call's own variables, a slice of its own (all of a row, as long as it was), a pointer into a tree's row, into an own row, the same of rows whose cells lead to what is the call's own, a function -/
inductive CV where
  | dead
  | t (x : T)
  | z
  | ab
  | ptr (k i : Nat)
  | own (k len : Nat)
  | el (row : List T) (j : Nat)
  | elo (k len i j : Nat)
  | cown (k len : Nat)
  | celo (k len i j : Nat)
  | fn (f : Fn) (first cap : List CV)
instance : Inhabited CV := ⟨.dead⟩
/-- what a slot holds -/
inductive AV where
  | dead
  | c (x : CV)
  | agg (l : List CV)
  | tup (l : List AV)
instance : Inhabited AV := ⟨.dead⟩
/-- a variable in memory; a row of the call's own -/
inductive AObj where
  | var (ty : TypeId) (cells : List CV)
  | row (ty : TypeId) (n : Nat) (rows : List (List T))
  | crow (ty : TypeId) (n : Nat) (rows : List (List CV))
abbrev AHeap := List (Nat × AObj)
def hget : AHeap → Nat → Option AObj
  | [], _ => none
  | (k', o) :: h, k => if k' = k then some o else hget h k
def hset : AHeap → Nat → AObj → AHeap
  | [], k, o => [(k, o)]
  | (k', o') :: h, k, o => if k' = k then (k, o) :: h else (k', o') :: hset h k o
def hdel : AHeap → Nat → AHeap
  | [], _ => []
  | (k', o') :: h, k => if k' = k then hdel h k else (k', o') :: hdel h k
theorem hget_hset (H : AHeap) (k k' : Nat) (o : AObj) : hget (hset H k o) k' = if k = k' then some o else hget H k' := by
  induction H with
  | nil => simp [hset, hget]
  | cons p t ih =>
    obtain ⟨q, u⟩ := p
    unfold hset
    by_cases h : q = k
    · subst h; simp only [if_true, hget]; split <;> rfl
    · simp only [if_neg h, hget, ih]
      by_cases h2 : q = k'
      · rw [if_pos h2, if_pos h2, if_neg (by omega)]
      · rw [if_neg h2, if_neg h2]
theorem hget_hdel (H : AHeap) (k k' : Nat) : hget (hdel H k) k' = if k = k' then none else hget H k' := by
  induction H with
  | nil => simp [hdel, hget]
  | cons p t ih =>
    obtain ⟨q, u⟩ := p
    unfold hdel
    by_cases h : q = k
    · subst h; simp only [if_true, hget, ih]; split <;> rfl
    · simp only [if_neg h, hget, ih]
      by_cases h2 : q = k'
      · rw [if_pos h2, if_pos h2, if_neg (by omega)]
      · rw [if_neg h2, if_neg h2]
/-- a tree in memory; A: the cells that may be looked at, and that nobody changes -/
inductive TRep (A : Nat → Nat → Prop) (w : World) : Value → T → Prop where
  | v (x : Value) (h : x.oneCell' = true) : TRep A w x (.v x)
  | e (a : Option Addr) (cap : Nat) : TRep A w (.slice a 0 cap) (.s [])
  | s (b off cap n : Nat) (rows : List (List T)) (vs : Nat → Nat → Value) (h1 : rows.length ≤ cap) (h2 : cap ≤ maxLen) (hn : ∀ i, i < rows.length → (rows.getD i []).length = n)
      (hc : ∀ i j, i < rows.length → j < n → A b (off + i * n + j) ∧ w.cell? ⟨b, off + i * n + j, none⟩ = some (vs i j))
      (hr : ∀ i j, i < rows.length → j < n → TRep A w (vs i j) ((rows.getD i []).getD j default)) : TRep A w (.slice (some ⟨b, off, none⟩) rows.length cap) (.s rows)
  | p (b off : Nat) (row : List T) (vs : Nat → Value) (hc : ∀ j, j < row.length → A b (off + j) ∧ w.cell? ⟨b, off + j, none⟩ = some (vs j))
      (hr : ∀ j, j < row.length → TRep A w (vs j) (row.getD j default)) : TRep A w (.pointer (some ⟨b, off, none⟩)) (.p row)
theorem TRep.mono {A A' : Nat → Nat → Prop} {w w' : World} (h : ∀ b i v, A b i → w.cell? ⟨b, i, none⟩ = some v → A' b i ∧ w'.cell? ⟨b, i, none⟩ = some v) {v : Value} {x : T} (hr : TRep A w v x) : TRep A' w' v x := by
  induction hr with
  | v x h1 => exact .v x h1
  | e a cap => exact .e a cap
  | s b off cap n rows vs h1 h2 hn hc hr ih => exact .s b off cap n rows vs h1 h2 hn (fun i j hi hj => h _ _ _ (hc i j hi hj).1 (hc i j hi hj).2) ih
  | p b off row vs hc hr ih => exact .p b off row vs (fun j hj => h _ _ _ (hc j hj).1 (hc j hj).2) ih
theorem TRep.one {A : Nat → Nat → Prop} {w : World} {v : Value} {x : T} (h : TRep A w v x) : v.oneCell' = true := by cases h <;> first | assumption | rfl
/-- all slices of a tree are as long as slices may be -/
inductive LenOk : T → Prop where
  | v (x : Value) : LenOk (.v x)
  | s (rows : List (List T)) (h : rows.length ≤ maxLen) (hr : ∀ i j, i < rows.length → j < (rows.getD i []).length → LenOk ((rows.getD i []).getD j default)) : LenOk (.s rows)
  | p (row : List T) (hr : ∀ j, j < row.length → LenOk (row.getD j default)) : LenOk (.p row)
theorem TRep.lens {A : Nat → Nat → Prop} {w : World} {v : Value} {x : T} (h : TRep A w v x) : LenOk x := by
  induction h with
  | v x _ => exact .v x
  | e a cap => exact .s [] (Nat.zero_le _) (fun i j hi => absurd hi (Nat.not_lt_zero _))
  | s b off cap n rows vs h1 h2 hn hc hr ih => exact .s rows (Nat.le_trans h1 h2) (fun i j hi hj => ih i j hi (by rw [← hn i hi]; exact hj))
  | p b off row vs hc hr ih => exact .p row ih
/-- where the call's variables and rows lie, and what nobody changes -/
structure Cx where
  m : Nat → Value
  A : Nat → Nat → Prop
def blk : Value → Option Nat
  | .pointer (some a) => some a.block
  | .slice (some a) _ (_ + 1) => some a.block
  | _ => none
theorem blk_sl {b l cap b' : Nat} (h : blk (.slice (some ⟨b, 0, none⟩) l cap) = some b') : b' = b := by
  cases cap with
  | zero => cases h
  | succ cap => injection h with h; exact h.symm
theorem blk_some {b l cap : Nat} (h : 0 < cap) : blk (.slice (some ⟨b, 0, none⟩) l cap) = some b := by
  cases cap with
  | zero => omega
  | succ cap => rfl
/-- a slice of the call's own: without room, or alone in its block -/
def Owns (w : World) (e : TypeId) (n : Nat) (v : Value) (m : Nat) (xs : List Value) : Prop :=
  (∃ a, v = .slice a 0 0 ∧ m = 0 ∧ xs = []) ∨
  ∃ g cap cur, v = .slice (some ⟨g, 0, none⟩) m (cap + 1) ∧ w.heap[g]? = some (.cells cur e (0, 0)) ∧ m ≤ cap + 1 ∧ cap + 1 ≤ maxLen ∧ cur.size = (cap + 1) * n ∧ cur.toList.take (m * n) = xs
theorem Owns.of {w : World} {e : TypeId} {n m b : Nat} {v : Value} {xs : List Value} (h : w.ownsRow b e n v m xs) : Owns w e n v m xs := by
  rcases h with ⟨h1, ⟨rfl, rfl⟩ | ⟨g, cap, cur, rfl, _, h2, h3, h4, h5, h6⟩⟩
  · exact .inl ⟨none, rfl, rfl, List.length_eq_zero_iff.1 (by simpa using h1)⟩
  · cases cap with
    | zero =>
      obtain rfl : m = 0 := by omega
      exact .inl ⟨_, rfl, rfl, by rw [← h6]; simp⟩
    | succ cap => exact .inr ⟨g, cap, cur, rfl, h2, h3, h4, h5, h6⟩
theorem Owns.len {w : World} {e : TypeId} {n m : Nat} {v : Value} {xs : List Value} (h : Owns w e n v m xs) : xs.length = m * n := by
  rcases h with ⟨a, _, rfl, rfl⟩ | ⟨g, cap, cur, _, _, h3, _, h5, h6⟩
  · simp
  · rw [← h6, List.length_take]
    have : m * n ≤ (cap + 1) * n := Nat.mul_le_mul_right _ h3
    simp; omega
theorem Owns.one {w : World} {e : TypeId} {n m : Nat} {v : Value} {xs : List Value} (h : Owns w e n v m xs) : v.oneCell' = true := by
  rcases h with ⟨a, rfl, _⟩ | ⟨g, cap, cur, rfl, _⟩ <;> rfl
inductive CRep (c : Cx) (H : AHeap) (w : World) : Value → CV → Prop where
  | dead (v : Value) (h : v.oneCell' = true) : CRep c H w v .dead
  | t {v : Value} {x : T} (h : TRep c.A w v x) : CRep c H w v (.t x)
  | z (a : Option Addr) : CRep c H w (.slice a 0 0) .z
  | ab (b : Bool) : CRep c H w (.bool b) .ab
  | ptr {k i : Nat} {ty : TypeId} {cells : List CV} {b : Nat} (ho : hget H k = some (.var ty cells)) (hm : c.m k = .pointer (some ⟨b, 0, none⟩)) : CRep c H w (.pointer (some ⟨b, i, none⟩)) (.ptr k i)
  | own {v : Value} {k len : Nat} {ty : TypeId} {n : Nat} {rows : List (List T)} (ho : hget H k = some (.row ty n rows)) (h1 : v.oneCell' = true) (hl : len ≤ rows.length) (hv : len = rows.length → v = c.m k) : CRep c H w v (.own k len)
  | el {row : List T} {j b off : Nat} (vs : Nat → Value) (hc : ∀ j, j < row.length → c.A b (off + j) ∧ w.cell? ⟨b, off + j, none⟩ = some (vs j)) (hr : ∀ j, j < row.length → TRep c.A w (vs j) (row.getD j default)) : CRep c H w (.pointer (some ⟨b, off + j, none⟩)) (.el row j)
  | elo {v : Value} {k len i j : Nat} {ty : TypeId} {n : Nat} {rows : List (List T)} (ho : hget H k = some (.row ty n rows)) (h1 : v.oneCell' = true) (hl : len ≤ rows.length) (hv : len = rows.length → i < len ∧ ∃ b cap, c.m k = .slice (some ⟨b, 0, none⟩) len cap ∧ v = .pointer (some ⟨b, i * n + j, none⟩)) : CRep c H w v (.elo k len i j)
  | cown {v : Value} {k len : Nat} {ty : TypeId} {n : Nat} {rows : List (List CV)} (ho : hget H k = some (.crow ty n rows)) (h1 : v.oneCell' = true) (hl : len ≤ rows.length) (hv : len = rows.length → v = c.m k) : CRep c H w v (.cown k len)
  | celo {v : Value} {k len i j : Nat} {ty : TypeId} {n : Nat} {rows : List (List CV)} (ho : hget H k = some (.crow ty n rows)) (h1 : v.oneCell' = true) (hl : len ≤ rows.length) (hv : len = rows.length → i < len ∧ ∃ b cap, c.m k = .slice (some ⟨b, 0, none⟩) len cap ∧ v = .pointer (some ⟨b, i * n + j, none⟩)) : CRep c H w v (.celo k len i j)
  | fn (f : Fn) (fs cs : List CV) (vs us : List Value) (h1 : vs.length = fs.length) (h2 : us.length = cs.length) (hf : ∀ i, i < fs.length → CRep c H w (vs.getD i undef) (fs.getD i .dead)) (hc : ∀ i, i < cs.length → CRep c H w (us.getD i undef) (cs.getD i .dead)) : CRep c H w (.func f vs.toArray us.toArray) (.fn f fs cs)
theorem CRep.one {c : Cx} {H : AHeap} {w : World} {v : Value} {x : CV} (h : CRep c H w v x) : v.oneCell' = true := by
  cases h with
  | t h => exact h.one
  | _ => first | assumption | rfl
/-- from one state to a later one -/
structure Later (c : Cx) (H : AHeap) (w : World) (c' : Cx) (H' : AHeap) (w' : World) : Prop where
  var : ∀ k ty cells, hget H k = some (.var ty cells) → ∃ cells', hget H' k = some (.var ty cells') ∧ c'.m k = c.m k
  row : ∀ k ty n rows, hget H k = some (.row ty n rows) → ∃ rows', hget H' k = some (.row ty n rows') ∧ ((rows'.length = rows.length ∧ c'.m k = c.m k) ∨ rows.length < rows'.length)
  crow : ∀ k ty n rows, hget H k = some (.crow ty n rows) → ∃ rows', hget H' k = some (.crow ty n rows') ∧ ((rows'.length = rows.length ∧ c'.m k = c.m k) ∨ rows.length < rows'.length)
  cell : ∀ b i v, c.A b i → w.cell? ⟨b, i, none⟩ = some v → c'.A b i ∧ w'.cell? ⟨b, i, none⟩ = some v
theorem CRep.later {c c' : Cx} {H H' : AHeap} {w w' : World} (hl : Later c H w c' H' w') {v : Value} {x : CV} (h : CRep c H w v x) : CRep c' H' w' v x := by
  induction h with
  | dead v h => exact .dead v h
  | t h => exact .t (h.mono hl.cell)
  | z a => exact .z a
  | ab b => exact .ab b
  | ptr ho hm =>
    obtain ⟨cells', h1, h2⟩ := hl.var _ _ _ ho
    exact .ptr h1 (h2.trans hm)
  | own ho h1 hle hv =>
    obtain ⟨rows', h2, h3⟩ := hl.row _ _ _ _ ho
    rcases h3 with ⟨h3, h4⟩ | h3
    · exact .own h2 h1 (by omega) (fun e => by rw [h4]; exact hv (by omega))
    · exact .own h2 h1 (by omega) (fun e => by omega)
  | el vs hc hr => exact .el vs (fun j hj => hl.cell _ _ _ (hc j hj).1 (hc j hj).2) (fun j hj => (hr j hj).mono hl.cell)
  | elo ho h1 hle hv =>
    obtain ⟨rows', h2, h3⟩ := hl.row _ _ _ _ ho
    rcases h3 with ⟨h3, h4⟩ | h3
    · exact .elo h2 h1 (by omega) (fun e => by rw [h4]; exact hv (by omega))
    · exact .elo h2 h1 (by omega) (fun e => by omega)
  | cown ho h1 hle hv =>
    obtain ⟨rows', h2, h3⟩ := hl.crow _ _ _ _ ho
    rcases h3 with ⟨h3, h4⟩ | h3
    · exact .cown h2 h1 (by omega) (fun e => by rw [h4]; exact hv (by omega))
    · exact .cown h2 h1 (by omega) (fun e => by omega)
  | celo ho h1 hle hv =>
    obtain ⟨rows', h2, h3⟩ := hl.crow _ _ _ _ ho
    rcases h3 with ⟨h3, h4⟩ | h3
    · exact .celo h2 h1 (by omega) (fun e => by rw [h4]; exact hv (by omega))
    · exact .celo h2 h1 (by omega) (fun e => by omega)
  | fn f fs cs vs us h1 h2 hf hc ihf ihc => exact .fn f fs cs vs us h1 h2 ihf ihc
inductive VRep (c : Cx) (H : AHeap) (w : World) : Value → AV → Prop where
  | dead (v : Value) : VRep c H w v .dead
  | c {v : Value} {x : CV} (h : CRep c H w v x) : VRep c H w v (.c x)
  | agg (cs : List Value) (l : List CV) (hl : cs.length = l.length) (h : ∀ i, i < l.length → CRep c H w (cs.getD i undef) (l.getD i .dead)) : VRep c H w (.agg cs.toArray) (.agg l)
  | tup (vs : List Value) (l : List AV) (hl : vs.length = l.length) (h : ∀ i, i < l.length → VRep c H w (vs.getD i undef) (l.getD i .dead)) : VRep c H w (.tuple vs.toArray) (.tup l)
theorem VRep.later {c c' : Cx} {H H' : AHeap} {w w' : World} (hl : Later c H w c' H' w') {v : Value} {x : AV} (h : VRep c H w v x) : VRep c' H' w' v x := by
  induction h with
  | dead v => exact .dead v
  | c h => exact .c (h.later hl)
  | agg cs l h1 h => exact .agg cs l h1 (fun i hi => (h i hi).later hl)
  | tup vs l h1 h ih => exact .tup vs l h1 ih
def ObjRep (c : Cx) (H : AHeap) (w : World) (k : Nat) : AObj → Prop
  | .var ty cells => ∃ b cs, c.m k = .pointer (some ⟨b, 0, none⟩) ∧ w.heap[b]? = some (.cells cs ty (0, 0)) ∧ cs.size = cells.length ∧ (∀ i, i < cells.length → CRep c H w (cs.getD i undef) (cells.getD i .dead)) ∧ ∀ i, ¬ c.A b i
  | .row ty n rows => 0 < n ∧ ∃ xs : List Value, Owns w ty n (c.m k) rows.length xs ∧ (∀ i, i < rows.length → (rows.getD i []).length = n ∧ ∀ j, j < n → TRep c.A w (xs.getD (i * n + j) undef) ((rows.getD i []).getD j default)) ∧ ∀ b, blk (c.m k) = some b → ∀ i, ¬ c.A b i
  | .crow ty n rows => 0 < n ∧ ∃ xs : List Value, Owns w ty n (c.m k) rows.length xs ∧ (∀ i, i < rows.length → (rows.getD i []).length = n ∧ ∀ j, j < n → CRep c H w (xs.getD (i * n + j) undef) ((rows.getD i []).getD j .dead)) ∧ ∀ b, blk (c.m k) = some b → ∀ i, ¬ c.A b i
/-- where the call began: the world, what nobody changes, and which blocks it was handed to change -/
structure Ent where
  w : World
  A : Nat → Nat → Prop
  F : Nat → Prop
  m : Nat → Value
  H : AHeap
/-- what the call was handed is there, in its place -/
structure Pin (m0 : Nat → Value) (H0 : AHeap) (m : Nat → Value) (H : AHeap) : Prop where
  big : ∀ k o, hget H0 k = some o → 1000 ≤ k
  var : ∀ k ty cells, hget H0 k = some (.var ty cells) → ∃ cells', hget H k = some (.var ty cells') ∧ m k = m0 k
  row : ∀ k ty n rows, hget H0 k = some (.row ty n rows) → ∃ rows', hget H k = some (.row ty n rows') ∧ ((rows'.length = rows.length ∧ m k = m0 k) ∨ rows.length < rows'.length)
  crow : ∀ k ty n rows, hget H0 k = some (.crow ty n rows) → ∃ rows', hget H k = some (.crow ty n rows') ∧ ((rows'.length = rows.length ∧ m k = m0 k) ∨ rows.length < rows'.length)
/-- a world, as the call's state tells it -/
structure Conc (E : Ent) (c : Cx) (H : AHeap) (w : World) : Prop where
  obj : ∀ k o, hget H k = some o → ObjRep c H w k o
  inj : ∀ k k' b, hget H k ≠ none → hget H k' ≠ none → blk (c.m k) = some b → blk (c.m k') = some b → k = k'
  lt : ∀ b i, c.A b i → b < w.heap.size
  ent : ∀ b i, E.A b i → ¬ E.F b ∧ b < E.w.heap.size
  le : ∀ b i, E.A b i → c.A b i
  new : ∀ b i, c.A b i → E.A b i ∨ E.w.heap.size ≤ b ∨ E.F b
  own : ∀ k b, hget H k ≠ none → blk (c.m k) = some b → E.F b ∨ E.w.heap.size ≤ b
  keep : ∀ b, b < E.w.heap.size → ¬ E.F b → w.heap[b]? = E.w.heap[b]?
  os : w.os = E.w.os
  tape : w.tape = E.w.tape
  output : w.output = E.w.output
  size : E.w.heap.size ≤ w.heap.size
  pin : Pin E.m E.H c.m H
theorem Pin.step {m0 : Nat → Value} {H0 : AHeap} {c c' : Cx} {H H' : AHeap} {w w' : World} (h : Pin m0 H0 c.m H) (hl : Later c H w c' H' w') : Pin m0 H0 c'.m H' := by
  refine ⟨h.big, fun k ty cells e => ?_, fun k ty n rows e => ?_, fun k ty n rows e => ?_⟩
  · obtain ⟨_, h1, h2⟩ := h.var _ _ _ e
    obtain ⟨_, h3, h4⟩ := hl.var _ _ _ h1
    exact ⟨_, h3, h4.trans h2⟩
  · obtain ⟨_, h1, h2⟩ := h.row _ _ _ _ e
    obtain ⟨_, h3, h4⟩ := hl.row _ _ _ _ h1
    refine ⟨_, h3, ?_⟩
    rcases h2 with ⟨h2, h5⟩ | h2 <;> rcases h4 with ⟨h4, h6⟩ | h4
    · exact .inl ⟨h4.trans h2, h6.trans h5⟩
    · exact .inr (by omega)
    · exact .inr (by omega)
    · exact .inr (by omega)
  · obtain ⟨_, h1, h2⟩ := h.crow _ _ _ _ e
    obtain ⟨_, h3, h4⟩ := hl.crow _ _ _ _ h1
    refine ⟨_, h3, ?_⟩
    rcases h2 with ⟨h2, h5⟩ | h2 <;> rcases h4 with ⟨h4, h6⟩ | h4
    · exact .inl ⟨h4.trans h2, h6.trans h5⟩
    · exact .inr (by omega)
    · exact .inr (by omega)
    · exact .inr (by omega)
theorem ownsRow_one {w : World} {base e n m : Nat} {v : Value} {xs : List Value} (h : w.ownsRow base e n v m xs) : v.oneCell' = true := by
  rcases h.2 with ⟨rfl, _⟩ | ⟨g, cap, cur, rfl, _⟩ <;> rfl
theorem lt_of_heap {w : World} {b : Nat} {o : Obj} (h : w.heap[b]? = some o) : b < w.heap.size := (Array.getElem?_eq_some_iff.1 h).1
/-- an object's block is there -/
theorem ObjRep.blk_lt {c : Cx} {H : AHeap} {w : World} {k : Nat} {o : AObj} (h : ObjRep c H w k o) {b : Nat} (hb : blk (c.m k) = some b) : b < w.heap.size := by
  cases o with
  | var ty cells =>
    obtain ⟨b', cs, h1, h2, _⟩ := h
    rw [h1] at hb; injection hb with hb; subst hb
    exact lt_of_heap h2
  | row ty n rows =>
    obtain ⟨_, xs, h1, _⟩ := h
    rcases h1 with ⟨a, e, _⟩ | ⟨g, cap, cur, e, h2, _⟩
    · rw [e] at hb; cases a <;> cases hb
    · rw [e] at hb; injection hb with hb; subst hb
      exact lt_of_heap h2
  | crow ty n rows =>
    obtain ⟨_, xs, h1, _⟩ := h
    rcases h1 with ⟨a, e, _⟩ | ⟨g, cap, cur, e, h2, _⟩
    · rw [e] at hb; cases a <;> cases hb
    · rw [e] at hb; injection hb with hb; subst hb
      exact lt_of_heap h2
theorem ObjRep.noA {c : Cx} {H : AHeap} {w : World} {k : Nat} {o : AObj} (h : ObjRep c H w k o) {b : Nat} (hb : blk (c.m k) = some b) (i : Nat) : ¬ c.A b i := by
  cases o with
  | var ty cells =>
    obtain ⟨b', cs, h1, _, _, _, h5⟩ := h
    rw [h1] at hb; injection hb with hb; subst hb
    exact h5 i
  | row ty n rows =>
    obtain ⟨_, xs, _, _, h3⟩ := h
    exact h3 b hb i
  | crow ty n rows =>
    obtain ⟨_, xs, _, _, h3⟩ := h
    exact h3 b hb i
/-- an object lasts where its block does -/
theorem ObjRep.later {c c' : Cx} {H H' : AHeap} {w w' : World} (hl : Later c H w c' H' w') {k : Nat} {o : AObj} (h : ObjRep c H w k o) (hm : c'.m k = c.m k) (hb : ∀ b, blk (c.m k) = some b → w'.heap[b]? = w.heap[b]?) (hA : ∀ b i, blk (c.m k) = some b → ¬ c'.A b i) : ObjRep c' H' w' k o := by
  cases o with
  | var ty cells =>
    obtain ⟨b, cs, h1, h2, h3, h4, h5⟩ := h
    have e : blk (c.m k) = some b := by rw [h1]; rfl
    exact ⟨b, cs, hm.trans h1, (hb b e).trans h2, h3, fun i hi => (h4 i hi).later hl, fun i => hA b i e⟩
  | row ty n rows =>
    obtain ⟨h0, xs, h1, h2, h3⟩ := h
    refine ⟨h0, xs, ?_, fun i hi => ⟨(h2 i hi).1, fun j hj => ((h2 i hi).2 j hj).mono hl.cell⟩, fun b e i => hA b i (by rw [← hm]; exact e)⟩
    rw [hm]
    rcases h1 with e | ⟨g, cap, cur, e1, e3, e4⟩
    · exact .inl e
    · exact .inr ⟨g, cap, cur, e1, by rw [hb g (by rw [e1]; rfl)]; exact e3, e4⟩
  | crow ty n rows =>
    obtain ⟨h0, xs, h1, h2, h3⟩ := h
    refine ⟨h0, xs, ?_, fun i hi => ⟨(h2 i hi).1, fun j hj => ((h2 i hi).2 j hj).later hl⟩, fun b e i => hA b i (by rw [← hm]; exact e)⟩
    rw [hm]
    rcases h1 with e | ⟨g, cap, cur, e1, e3, e4⟩
    · exact .inl e
    · exact .inr ⟨g, cap, cur, e1, by rw [hb g (by rw [e1]; rfl)]; exact e3, e4⟩
theorem Later.refl (c : Cx) (H : AHeap) (w : World) : Later c H w c H w :=
  ⟨fun k ty cells h => ⟨cells, h, rfl⟩, fun k ty n rows h => ⟨rows, h, .inl ⟨rfl, rfl⟩⟩, fun k ty n rows h => ⟨rows, h, .inl ⟨rfl, rfl⟩⟩, fun b i v h1 h2 => ⟨h1, h2⟩⟩
theorem Later.trans {c c' c'' : Cx} {H H' H'' : AHeap} {w w' w'' : World} (h : Later c H w c' H' w') (h' : Later c' H' w' c'' H'' w'') : Later c H w c'' H'' w'' := by
  refine ⟨fun k ty cells e => ?_, fun k ty n rows e => ?_, fun k ty n rows e => ?_, fun b i v h1 h2 => ?_⟩
  · obtain ⟨_, h1, h2⟩ := h.var _ _ _ e
    obtain ⟨_, h3, h4⟩ := h'.var _ _ _ h1
    exact ⟨_, h3, h4.trans h2⟩
  · obtain ⟨_, h1, h2⟩ := h.row _ _ _ _ e
    obtain ⟨_, h3, h4⟩ := h'.row _ _ _ _ h1
    refine ⟨_, h3, ?_⟩
    rcases h2 with ⟨h2, h5⟩ | h2 <;> rcases h4 with ⟨h4, h6⟩ | h4
    · exact .inl ⟨h4.trans h2, h6.trans h5⟩
    · exact .inr (by omega)
    · exact .inr (by omega)
    · exact .inr (by omega)
  · obtain ⟨_, h1, h2⟩ := h.crow _ _ _ _ e
    obtain ⟨_, h3, h4⟩ := h'.crow _ _ _ _ h1
    refine ⟨_, h3, ?_⟩
    rcases h2 with ⟨h2, h5⟩ | h2 <;> rcases h4 with ⟨h4, h6⟩ | h4
    · exact .inl ⟨h4.trans h2, h6.trans h5⟩
    · exact .inr (by omega)
    · exact .inr (by omega)
    · exact .inr (by omega)
  · obtain ⟨h3, h4⟩ := h.cell _ _ _ h1 h2
    exact h'.cell _ _ _ h3 h4
/-- new memory alone -/
structure Grew (w w' : World) : Prop where
  os : w'.os = w.os
  tape : w'.tape = w.tape
  output : w'.output = w.output
  size : w.heap.size ≤ w'.heap.size
  block : ∀ b, b < w.heap.size → w'.heap[b]? = w.heap[b]?
theorem Grew.of_below {w w' : World} (h : Below w.heap.size w w') : Grew w w' := ⟨h.os, h.tape, h.output, h.size, h.block⟩
theorem Grew.below {w w' : World} (h : Grew w w') : Below w.heap.size w w' := ⟨h.os, h.tape, h.output, h.size, h.block⟩
theorem Grew.cell {w w' : World} (h : Grew w w') {b i : Nat} {v : Value} (hc : w.cell? ⟨b, i, none⟩ = some v) : w'.cell? ⟨b, i, none⟩ = some v := by
  have hb : b < w.heap.size := World.block_lt_of_cell? w _ hc
  rw [World.cell?_of_block (w := w) (a := ⟨b, i, none⟩) (h.block b hb)]; exact hc
/-- a step that makes memory alone: what is new may be looked at -/
theorem Conc.grew {E : Ent} {c : Cx} {H : AHeap} {w w' : World} (hC : Conc E c H w) (hg : Grew w w') (A' : Nat → Nat → Prop) (h1 : ∀ b i, c.A b i → A' b i) (h2 : ∀ b i, A' b i → c.A b i ∨ (w.heap.size ≤ b ∧ b < w'.heap.size)) :
    Conc E ⟨c.m, A'⟩ H w' ∧ Later c H w ⟨c.m, A'⟩ H w' := by
  have hl : Later c H w ⟨c.m, A'⟩ H w' := ⟨fun k ty cells e => ⟨cells, e, rfl⟩, fun k ty n rows e => ⟨rows, e, .inl ⟨rfl, rfl⟩⟩, fun k ty n rows e => ⟨rows, e, .inl ⟨rfl, rfl⟩⟩, fun b i v e1 e2 => ⟨h1 _ _ e1, hg.cell e2⟩⟩
  refine ⟨⟨fun k o e => ?_, hC.inj, fun b i e => ?_, hC.ent, fun b i e => h1 _ _ (hC.le _ _ e), fun b i e => ?_, hC.own, fun b e1 e2 => ?_, hg.os.trans hC.os, hg.tape.trans hC.tape, hg.output.trans hC.output, Nat.le_trans hC.size hg.size, hC.pin.step hl⟩, hl⟩
  · have ho := hC.obj k o e
    refine ho.later hl rfl (fun b hb => hg.block b (ho.blk_lt hb)) (fun b i hb hA => ?_)
    rcases h2 _ _ hA with h | h
    · exact ho.noA hb i h
    · have := ho.blk_lt hb; omega
  · rcases h2 _ _ e with h | h
    · exact Nat.lt_of_lt_of_le (hC.lt _ _ h) hg.size
    · exact h.2
  · rcases h2 _ _ e with h | h
    · exact hC.new _ _ h
    · exact .inr (.inl (Nat.le_trans hC.size h.1))
  · rw [hg.block b (Nat.lt_of_lt_of_le e1 hC.size)]; exact hC.keep b e1 e2
end Go.Proofs.YtoebfmhogkjmgaaGreatDoor.Fx
