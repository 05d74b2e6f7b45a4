/- Memory told by keys, for runs on what is known: data, worlds, and what steps do to them. No program in sight. -/
import Derived.Test.YtoebfmhogkjmgaaGreatDoorFxE
namespace Go.Proofs.YtoebfmhogkjmgaaGreatDoor.Gx
open Go.RowKit
set_option linter.unusedVariables false
set_option linter.unusedSimpArgs false
theorem blt_iff {a b : Nat} : Nat.blt a b = true ↔ a < b := by rw [Nat.blt_eq]
/-- what a cell holds: a value; a string's bytes; a pointer into a block; a slice of a block (its room: at least so much; just so much); an empty slice, wherever; a function; a map -/
inductive GC where
  | v (x : Value)
  | s (l : List Nat)
  | p (k i : Nat)
  | sl (k off len cap n : Nat) (ex : Bool)
  | e
  | fn (f : Fn) (first cap : List GC)
  | m (k : Nat)
instance : Inhabited GC := ⟨.v undef⟩
/-- what a slot holds -/
inductive GA where
  | dead
  | c (x : GC)
  | agg (l : List GC)
  | tup (l : List GA)
instance : Inhabited GA := ⟨.dead⟩
/-- a block: its cells as far as they are known, and when they were written last; one that is no more; a map's entries -/
inductive GObj where
  | cells (ty : TypeId) (cs : List GC) (ver : Nat)
  | gone (ver : Nat)
  | mp (es : List (List Nat × GC)) (ver : Nat)
instance : Inhabited GObj := ⟨.gone 0⟩
abbrev GH := Nat → Option GObj
/-- where a block lies: its number, where it begins there, how many cells it has -/
abbrev GM := Nat → Option (Nat × Nat × Nat)
def up {α : Type} (H : Nat → Option α) (k : Nat) (o : α) : Nat → Option α := fun j => if j = k then some o else H j
theorem up_same {α : Type} (H : Nat → Option α) (k : Nat) (o : α) : up H k o k = some o := if_pos rfl
theorem up_other {α : Type} (H : Nat → Option α) {k j : Nat} (o : α) (h : j ≠ k) : up H k o j = H j := if_neg h
def bytesOf (l : List Nat) : ByteArray := ⟨(l.map UInt8.ofNat).toArray⟩
inductive CRep (m : GM) : Value → GC → Prop where
  | v (x : Value) (h : x.oneCell' = true) : CRep m x (.v x)
  | s (l : List Nat) (h : ∀ b ∈ l, b < 256) : CRep m (.string (bytesOf l)) (.s l)
  | p {k i b base size : Nat} (h : m k = some (b, base, size)) : CRep m (.pointer (some ⟨b, base + i, none⟩)) (.p k i)
  | sl {k off len cap n : Nat} {ex : Bool} {b base size c : Nat} (h : m k = some (b, base, size)) (h1 : cap ≤ c) (h2 : ex = true → c = cap) (h3 : off + c * n ≤ size) (h4 : len ≤ cap) (h5 : 0 < n) (h6 : c ≤ maxLen) : CRep m (.slice (some ⟨b, base + off, none⟩) len c) (.sl k off len cap n ex)
  | e (a : Addr) (c : Nat) : CRep m (.slice (some a) 0 c) .e
  | m {k b : Nat} (h : m k = some (b, 0, 0)) : CRep m (.map (some b)) (.m k)
  | fn (f : Fn) (fs cs : List GC) (vs us : List Value) (h1 : vs.length = fs.length) (h2 : us.length = cs.length) (hf : ∀ i, i < fs.length → CRep m (vs.getD i undef) (fs.getD i default)) (hc : ∀ i, i < cs.length → CRep m (us.getD i undef) (cs.getD i default)) : CRep m (.func f vs.toArray us.toArray) (.fn f fs cs)
theorem CRep.one {m : GM} {v : Value} {x : GC} (h : CRep m v x) : v.oneCell' = true := by
  cases h <;> first | assumption | rfl
def Ext (m m' : GM) : Prop := ∀ k r, m k = some r → m' k = some r
theorem Ext.refl (m : GM) : Ext m m := fun _ _ h => h
theorem Ext.trans {m m' m'' : GM} (h : Ext m m') (h' : Ext m' m'') : Ext m m'' := fun k r e => h' k r (h k r e)
theorem CRep.ext {m m' : GM} (hm : Ext m m') {v : Value} {x : GC} (h : CRep m v x) : CRep m' v x := by
  induction h with
  | v x h => exact .v x h
  | s l h => exact .s l h
  | p h => exact .p (hm _ _ h)
  | sl h h1 h2 h3 h4 h5 h6 => exact .sl (hm _ _ h) h1 h2 h3 h4 h5 h6
  | e a c => exact .e a c
  | m h => exact .m (hm _ _ h)
  | fn f fs cs vs us h1 h2 hf hc ihf ihc => exact .fn f fs cs vs us h1 h2 ihf ihc
inductive VRep (m : GM) : Value → GA → Prop where
  | dead (v : Value) : VRep m v .dead
  | c {v : Value} {x : GC} (h : CRep m v x) : VRep m v (.c x)
  | agg (cs : List Value) (l : List GC) (hl : cs.length = l.length) (h : ∀ i, i < l.length → CRep m (cs.getD i undef) (l.getD i default)) : VRep m (.agg cs.toArray) (.agg l)
  | tup (vs : List Value) (l : List GA) (hl : vs.length = l.length) (h : ∀ i, i < l.length → VRep m (vs.getD i undef) (l.getD i .dead)) : VRep m (.tuple vs.toArray) (.tup l)
theorem VRep.ext {m m' : GM} (hm : Ext m m') {v : Value} {x : GA} (h : VRep m v x) : VRep m' v x := by
  induction h with
  | dead v => exact .dead v
  | c h => exact .c (h.ext hm)
  | agg cs l h1 h => exact .agg cs l h1 (fun i hi => (h i hi).ext hm)
  | tup vs l h1 h ih => exact .tup vs l h1 ih
def ObjRep (m : GM) (w : World) (k : Nat) (ty : TypeId) (cells : List GC) : Prop :=
  ∃ b base size cs, m k = some (b, base, size) ∧ w.heap[b]? = some (.cells cs ty (0, 0)) ∧ base + size ≤ cs.size ∧ cells.length ≤ size ∧ ∀ i, i < cells.length → CRep m (cs.getD (base + i) undef) (cells.getD i default)
def MapRep (m : GM) (w : World) (k : Nat) (es : List (List Nat × GC)) : Prop :=
  ∃ b ents clock, m k = some (b, 0, 0) ∧ w.heap[b]? = some (.map ents clock) ∧ ents.size = es.length ∧ ∀ i, i < es.length → (ents.getD i default).key = .string (bytesOf (es.getD i default).1) ∧ (∀ c ∈ (es.getD i default).1, c < 256) ∧ CRep m (ents.getD i default).val (es.getD i default).2
def Live (H : GH) (k : Nat) : Prop := (∃ ty cs ver, H k = some (.cells ty cs ver)) ∨ ∃ es ver, H k = some (.mp es ver)
/-- a world, as the blocks tell it -/
structure Conc (w0 : World) (m : GM) (H : GH) (w : World) : Prop where
  obj : ∀ k ty cs ver, H k = some (.cells ty cs ver) → ObjRep m w k ty cs
  objm : ∀ k es ver, H k = some (.mp es ver) → MapRep m w k es
  dom : ∀ k r, m k = some r → H k ≠ none
  inj : ∀ k k' r r', Live H k → Live H k' → m k = some r → m k' = some r' → r.1 = r'.1 → k = k'
  new : ∀ k r, m k = some r → w0.heap.size ≤ r.1
  zero : ∀ k r, m k = some r → r.2.1 = 0
  keep : ∀ b, b < w0.heap.size → w.heap[b]? = w0.heap[b]?
  os : w.os = w0.os
  tape : w.tape = w0.tape
  output : w.output = w0.output
  size : w0.heap.size ≤ w.heap.size
theorem lt_of_heap {w : World} {b : Nat} {o : Obj} (h : w.heap[b]? = some o) : b < w.heap.size := (Array.getElem?_eq_some_iff.1 h).1
theorem Conc.lies {w0 w : World} {m : GM} {H : GH} (hC : Conc w0 m H w) {k : Nat} (h : Live H k) {r : Nat × Nat × Nat} (e : m k = some r) : r.1 < w.heap.size := by
  rcases h with ⟨ty, cs, ver, h⟩ | ⟨es, ver, h⟩
  · obtain ⟨b, base, size, cc, g1, g2, _⟩ := hC.obj k ty cs ver h
    rw [e] at g1; injection g1 with g1
    rw [g1]; exact lt_of_heap g2
  · obtain ⟨b, en, cl, g1, g2, _⟩ := hC.objm k es ver h
    rw [e] at g1; injection g1 with g1
    rw [g1]; exact lt_of_heap g2
theorem MapRep.mono {m m' : GM} {w w' : World} {k : Nat} {es : List (List Nat × GC)} (hx : Ext m m') (hw : ∀ (b : Nat) (en : Array MapEntry) (cl : Nat), w.heap[b]? = some (Obj.map en cl) → w'.heap[b]? = some (Obj.map en cl)) (h : MapRep m w k es) : MapRep m' w' k es := by
  obtain ⟨b, en, cl, g1, g2, g3, g4⟩ := h
  exact ⟨b, en, cl, hx _ _ g1, hw _ _ _ g2, g3, fun i hi => ⟨(g4 i hi).1, (g4 i hi).2.1, (g4 i hi).2.2.ext hx⟩⟩
theorem live_up {H : GH} {k j : Nat} {o : GObj} (h : Live (up H k o) j) (e : j ≠ k) : Live H j := by
  rcases h with ⟨t, cl, v, h⟩ | ⟨es, v, h⟩
  · rw [up_other _ _ e] at h; exact .inl ⟨t, cl, v, h⟩
  · rw [up_other _ _ e] at h; exact .inr ⟨es, v, h⟩
theorem Conc.free {w0 w : World} {m : GM} {H : GH} (hC : Conc w0 m H w) {k : Nat} (h : H k = none) : m k = none := by
  cases e : m k with
  | none => rfl
  | some r => exact absurd h (hC.dom k r e)
theorem ext_up {m : GM} {k : Nat} (h : m k = none) (r : Nat × Nat × Nat) : Ext m (up m k r) := fun j r' e => by
  rw [up_other]
  · exact e
  · rintro rfl; rw [h] at e; cases e
/-- a new block -/
theorem Conc.alloc {w0 w : World} {m : GM} {H : GH} (hC : Conc w0 m H w) {k : Nat} (hk : H k = none) (ty : TypeId) (cs : Array Value) (cells : List GC) (ver : Nat) (hl : cells.length ≤ cs.size) (h : ∀ i, i < cells.length → CRep m (cs.getD i undef) (cells.getD i default)) :
    Conc w0 (up m k (w.heap.size, 0, cs.size)) (up H k (.cells ty cells ver)) (w.alloc (.cells cs ty)) ∧ Ext m (up m k (w.heap.size, 0, cs.size)) := by
  have hx : Ext m (up m k (w.heap.size, 0, cs.size)) := ext_up (hC.free hk) _
  have hnew : (w.alloc (.cells cs ty)).heap[w.heap.size]? = some (.cells cs ty (0, 0)) := heap_alloc_new w _
  have hold : ∀ b, b < w.heap.size → (w.alloc (.cells cs ty)).heap[b]? = w.heap[b]? := fun b hb => heap_alloc_old w _ hb
  have hsz : (w.alloc (.cells cs ty)).heap.size = w.heap.size + 1 := by simp
  refine ⟨⟨fun j t cl v hj => ?_, fun j es v hj => ?_, fun j r hj => ?_, fun j j' r r' h1 h2 e1 e2 e3 => ?_, fun j r hj => ?_, fun j r hj => ?_, fun b hb => ?_, hC.os, hC.tape, hC.output, ?_⟩, hx⟩
  · by_cases e : j = k
    · subst e
      rw [up_same] at hj; injection hj with hj; injection hj with e1 e2 e3; subst e1; subst e2
      exact ⟨w.heap.size, 0, cs.size, cs, up_same _ _ _, hnew, by omega, hl, fun i hi => by rw [Nat.zero_add]; exact (h i hi).ext hx⟩
    · rw [up_other _ _ e] at hj
      obtain ⟨b, base, size, cc, g1, g2, g3, g4, g5⟩ := hC.obj j t cl v hj
      exact ⟨b, base, size, cc, hx _ _ g1, by rw [hold b (lt_of_heap g2)]; exact g2, g3, g4, fun i hi => (g5 i hi).ext hx⟩
  · have e : j ≠ k := fun e => by subst e; rw [up_same] at hj; injection hj with hj; cases hj
    rw [up_other _ _ e] at hj
    exact (hC.objm j es v hj).mono hx (fun b en cl g => by rw [hold b (lt_of_heap g)]; exact g)
  · by_cases e : j = k
    · subst e; rw [up_same]; simp
    · rw [up_other _ _ e] at hj ⊢; exact hC.dom j r hj
  · have key : ∀ j r, Live (up H k (.cells ty cells ver)) j → up m k (w.heap.size, 0, cs.size) j = some r → j ≠ k → Live H j ∧ m j = some r ∧ r.1 < w.heap.size := fun j r h1 e1 e => by
      have h2 := live_up h1 e
      rw [up_other _ _ e] at e1
      exact ⟨h2, e1, hC.lies h2 e1⟩
    by_cases a : j = k <;> by_cases a' : j' = k
    · rw [a, a']
    · obtain ⟨_, _, q⟩ := key j' r' h2 e2 a'
      subst a
      rw [up_same] at e1; injection e1 with e1; subst e1
      simp only at e3; omega
    · obtain ⟨_, _, q⟩ := key j r h1 e1 a
      subst a'
      rw [up_same] at e2; injection e2 with e2; subst e2
      simp only at e3; omega
    · obtain ⟨p1, p2, _⟩ := key j r h1 e1 a
      obtain ⟨q1, q2, _⟩ := key j' r' h2 e2 a'
      exact hC.inj j j' r r' p1 q1 p2 q2 e3
  · by_cases e : j = k
    · subst e; rw [up_same] at hj; injection hj with hj; rw [← hj]; exact hC.size
    · rw [up_other _ _ e] at hj; exact hC.new j r hj
  · by_cases e : j = k
    · subst e; rw [up_same] at hj; injection hj with hj; rw [← hj]
    · rw [up_other _ _ e] at hj; exact hC.zero j r hj
  · rw [hold b (Nat.lt_of_lt_of_le hb hC.size)]; exact hC.keep b hb
  · rw [hsz]; have := hC.size; omega
/-- a block's cells, written -/
theorem Conc.write {w0 w w' : World} {m : GM} {H : GH} (hC : Conc w0 m H w) {k b base size : Nat} {ty : TypeId} {cells cells' : List GC} {ver ver' : Nat} (hk : H k = some (.cells ty cells ver)) (hm : m k = some (b, base, size)) (cs' : Array Value)
    (hh : ∀ j, j ≠ b → w'.heap[j]? = w.heap[j]?) (hb : w'.heap[b]? = some (.cells cs' ty (0, 0))) (hsz : w'.heap.size = w.heap.size) (h1 : w'.os = w.os) (h2 : w'.tape = w.tape) (h3 : w'.output = w.output)
    (hl : base + size ≤ cs'.size) (hl2 : cells'.length ≤ size) (hr : ∀ i, i < cells'.length → CRep m (cs'.getD (base + i) undef) (cells'.getD i default)) :
    Conc w0 m (up H k (.cells ty cells' ver')) w' := by
  have hlive : ∀ j, Live (up H k (.cells ty cells' ver')) j → Live H j := fun j hj => by
    by_cases e : j = k
    · subst e; exact .inl ⟨_, _, _, hk⟩
    · exact live_up hj e
  refine ⟨fun j t cl v hj => ?_, fun j es v hj => ?_, fun j r hj => ?_, fun j j' r r' g1 g2 e1 e2 e3 => hC.inj j j' r r' (hlive j g1) (hlive j' g2) e1 e2 e3, hC.new, hC.zero, fun c hc => ?_, h1.trans hC.os, h2.trans hC.tape, h3.trans hC.output, by rw [hsz]; exact hC.size⟩
  · by_cases e : j = k
    · subst e
      rw [up_same] at hj; injection hj with hj; injection hj with e1 e2 e3; subst e1; subst e2
      exact ⟨b, base, size, cs', hm, hb, hl, hl2, hr⟩
    · rw [up_other _ _ e] at hj
      obtain ⟨b', base', size', cc, g1, g2, g3, g4, g5⟩ := hC.obj j t cl v hj
      have hne : b' ≠ b := fun e2 => e (hC.inj j k _ _ (.inl ⟨_, _, _, hj⟩) (.inl ⟨_, _, _, hk⟩) g1 hm e2)
      exact ⟨b', base', size', cc, g1, by rw [hh b' hne]; exact g2, g3, g4, g5⟩
  · have e : j ≠ k := fun e => by subst e; rw [up_same] at hj; injection hj with hj; cases hj
    rw [up_other _ _ e] at hj
    refine (hC.objm j es v hj).mono (Ext.refl m) (fun b' en cl g => ?_)
    obtain ⟨b2, base2, size2, cc, g1, g2, _⟩ := hC.obj k _ _ _ hk
    rw [hm] at g1; injection g1 with g1; injection g1 with q1 _
    subst q1
    have hne : b' ≠ b := fun e2 => by subst e2; rw [g] at g2; cases g2
    rw [hh b' hne]; exact g
  · by_cases e : j = k
    · subst e; rw [up_same]; simp
    · rw [up_other _ _ e]; exact hC.dom j r hj
  · have hne : c ≠ b := fun e => by
      have := hC.new k _ hm
      simp only at this; omega
    rw [hh c hne]; exact hC.keep c hc
/-- a block that is looked at no more -/
theorem Conc.gone {w0 w : World} {m : GM} {H : GH} (hC : Conc w0 m H w) {k : Nat} {o : GObj} (hk : H k = some o) (ver : Nat) : Conc w0 m (up H k (.gone ver)) w := by
  have hlive : ∀ j, Live (up H k (.gone ver)) j → j ≠ k ∧ Live H j := fun j hj => by
    have e : j ≠ k := fun e => by
      subst e
      rcases hj with ⟨t, cl, v, hj⟩ | ⟨es, v, hj⟩ <;> (rw [up_same] at hj; injection hj with hj; cases hj)
    exact ⟨e, live_up hj e⟩
  refine ⟨fun j t cl v hj => ?_, fun j es v hj => ?_, fun j r hj => ?_, fun j j' r r' g1 g2 e1 e2 e3 => hC.inj j j' r r' (hlive j g1).2 (hlive j' g2).2 e1 e2 e3, hC.new, hC.zero, hC.keep, hC.os, hC.tape, hC.output, hC.size⟩
  · obtain ⟨e, _⟩ := hlive j (.inl ⟨_, _, _, hj⟩)
    rw [up_other _ _ e] at hj
    exact hC.obj j t cl v hj
  · obtain ⟨e, _⟩ := hlive j (.inr ⟨_, _, hj⟩)
    rw [up_other _ _ e] at hj
    exact hC.objm j es v hj
  · by_cases e : j = k
    · subst e; rw [up_same]; simp
    · rw [up_other _ _ e]; exact hC.dom j r hj
/-- a block by another key: by its own it is looked at no more -/
theorem Conc.move {w0 w : World} {m : GM} {H : GH} (hC : Conc w0 m H w) {k d : Nat} {ty : TypeId} {cells : List GC} {ver : Nat} (hk : H k = some (.cells ty cells ver)) (hd : H d = none) {b base size : Nat} (hm : m k = some (b, base, size)) (ver1 ver2 : Nat) :
    Conc w0 (up m d (b, base, size)) (up (up H k (.gone ver1)) d (.cells ty cells ver2)) w ∧ Ext m (up m d (b, base, size)) := by
  have hx : Ext m (up m d (b, base, size)) := ext_up (hC.free hd) _
  have hkd : k ≠ d := fun e => by rw [e, hd] at hk; cases hk
  have hlive : ∀ j, Live (up (up H k (.gone ver1)) d (.cells ty cells ver2)) j → j ≠ d → j ≠ k ∧ Live H j := fun j hj e => by
    have hj := live_up hj e
    have e2 : j ≠ k := fun e => by
      subst e
      rcases hj with ⟨t, cl, v, hj⟩ | ⟨es, v, hj⟩ <;> (rw [up_same] at hj; injection hj with hj; cases hj)
    exact ⟨e2, live_up hj e2⟩
  have hlk : Live H k := .inl ⟨_, _, _, hk⟩
  refine ⟨⟨fun j t cl v hj => ?_, fun j es v hj => ?_, fun j r hj => ?_, fun j j' r r' g1 g2 e1 e2 e3 => ?_, fun j r hj => ?_, fun j r hj => ?_, hC.keep, hC.os, hC.tape, hC.output, hC.size⟩, hx⟩
  · by_cases e : j = d
    · subst e
      rw [up_same] at hj; injection hj with hj; injection hj with e1 e2 e3; subst e1; subst e2
      obtain ⟨b', base', size', cc, g1, g2, g3, g4, g5⟩ := hC.obj k _ _ _ hk
      rw [hm] at g1; injection g1 with g1; injection g1 with q1 g1; injection g1 with q2 q3
      subst q1; subst q2; subst q3
      refine ⟨b, base, size, cc, up_same _ _ _, g2, g3, g4, fun i hi => (g5 i hi).ext hx⟩
    · obtain ⟨e2, _⟩ := hlive j (.inl ⟨_, _, _, hj⟩) e
      rw [up_other _ _ e, up_other _ _ e2] at hj
      obtain ⟨b', base', size', cc, g1, g2, g3, g4, g5⟩ := hC.obj j t cl v hj
      exact ⟨b', base', size', cc, hx _ _ g1, g2, g3, g4, fun i hi => (g5 i hi).ext hx⟩
  · have e : j ≠ d := fun e => by subst e; rw [up_same] at hj; injection hj with hj; cases hj
    obtain ⟨e2, _⟩ := hlive j (.inr ⟨_, _, hj⟩) e
    rw [up_other _ _ e, up_other _ _ e2] at hj
    exact (hC.objm j es v hj).mono hx (fun b en cl g => g)
  · by_cases e : j = d
    · subst e; rw [up_same]; simp
    · rw [up_other _ _ e]
      rw [up_other _ _ e] at hj
      by_cases e2 : j = k
      · subst e2; rw [up_same]; simp
      · rw [up_other _ _ e2]; exact hC.dom j r hj
  · by_cases a : j = d <;> by_cases a' : j' = d
    · rw [a, a']
    · obtain ⟨q1, q2⟩ := hlive j' g2 a'
      subst a
      rw [up_same] at e1; injection e1 with e1; subst e1
      rw [up_other _ _ a'] at e2
      exact absurd (hC.inj k j' _ _ hlk q2 hm e2 e3) (Ne.symm q1)
    · obtain ⟨q1, q2⟩ := hlive j g1 a
      subst a'
      rw [up_same] at e2; injection e2 with e2; subst e2
      rw [up_other _ _ a] at e1
      exact absurd (hC.inj j k _ _ q2 hlk e1 hm e3) q1
    · obtain ⟨_, q2⟩ := hlive j g1 a
      obtain ⟨_, q4⟩ := hlive j' g2 a'
      rw [up_other _ _ a] at e1
      rw [up_other _ _ a'] at e2
      exact hC.inj j j' r r' q2 q4 e1 e2 e3
  · by_cases e : j = d
    · subst e; rw [up_same] at hj; injection hj with hj; rw [← hj]; exact hC.new k (b, base, size) hm
    · rw [up_other _ _ e] at hj; exact hC.new j r hj
  · by_cases e : j = d
    · subst e; rw [up_same] at hj; injection hj with hj; rw [← hj]; exact hC.zero k _ hm
    · rw [up_other _ _ e] at hj; exact hC.zero j r hj
/-- a draw -/
theorem Conc.drew {w0 w w' : World} {m : GM} {H : GH} (hC : Conc w0 m H w) (hh : w'.heap = w.heap) (h1 : w'.os = w.os) (h2 : w'.tape = w.tape) (h3 : w'.output = w.output) : Conc w0 m H w' := by
  refine ⟨fun k ty cs ver hk => ?_, fun k es ver hk => (hC.objm k es ver hk).mono (Ext.refl m) (fun b en cl g => by rw [hh]; exact g), hC.dom, hC.inj, hC.new, hC.zero, fun b hb => by rw [hh]; exact hC.keep b hb, h1.trans hC.os, h2.trans hC.tape, h3.trans hC.output, by rw [hh]; exact hC.size⟩
  obtain ⟨b, base, size, cc, g1, g2, g3, g4, g5⟩ := hC.obj k ty cs ver hk
  exact ⟨b, base, size, cc, g1, by rw [hh]; exact g2, g3, g4, g5⟩
/-- a new map -/
theorem Conc.allocM {w0 w : World} {m : GM} {H : GH} (hC : Conc w0 m H w) {k : Nat} (hk : H k = none) (ver : Nat) :
    Conc w0 (up m k (w.heap.size, 0, 0)) (up H k (.mp [] ver)) (w.alloc (.map #[] 0)) ∧ Ext m (up m k (w.heap.size, 0, 0)) := by
  have hx : Ext m (up m k (w.heap.size, 0, 0)) := ext_up (hC.free hk) _
  have hnew : (w.alloc (.map #[] 0)).heap[w.heap.size]? = some (.map #[] 0) := heap_alloc_new w _
  have hold : ∀ b, b < w.heap.size → (w.alloc (.map #[] 0)).heap[b]? = w.heap[b]? := fun b hb => heap_alloc_old w _ hb
  have hsz : (w.alloc (.map #[] 0)).heap.size = w.heap.size + 1 := by simp
  refine ⟨⟨fun j t cl v hj => ?_, fun j es v hj => ?_, fun j r hj => ?_, fun j j' r r' h1 h2 e1 e2 e3 => ?_, fun j r hj => ?_, fun j r hj => ?_, fun b hb => ?_, hC.os, hC.tape, hC.output, ?_⟩, hx⟩
  · have e : j ≠ k := fun e => by subst e; rw [up_same] at hj; injection hj with hj; cases hj
    rw [up_other _ _ e] at hj
    obtain ⟨b, base, size, cc, g1, g2, g3, g4, g5⟩ := hC.obj j t cl v hj
    exact ⟨b, base, size, cc, hx _ _ g1, by rw [hold b (lt_of_heap g2)]; exact g2, g3, g4, fun i hi => (g5 i hi).ext hx⟩
  · by_cases e : j = k
    · subst e
      rw [up_same] at hj; injection hj with hj; injection hj with e1 e2; subst e1
      exact ⟨w.heap.size, #[], 0, up_same _ _ _, hnew, rfl, fun i hi => absurd hi (Nat.not_lt_zero _)⟩
    · rw [up_other _ _ e] at hj
      exact (hC.objm j es v hj).mono hx (fun b en cl g => by rw [hold b (lt_of_heap g)]; exact g)
  · by_cases e : j = k
    · subst e; rw [up_same]; simp
    · rw [up_other _ _ e] at hj ⊢; exact hC.dom j r hj
  · have key : ∀ j r, Live (up H k (.mp [] ver)) j → up m k (w.heap.size, 0, 0) j = some r → j ≠ k → Live H j ∧ m j = some r ∧ r.1 < w.heap.size := fun j r h1 e1 e => by
      have h2 := live_up h1 e
      rw [up_other _ _ e] at e1
      exact ⟨h2, e1, hC.lies h2 e1⟩
    by_cases a : j = k <;> by_cases a' : j' = k
    · rw [a, a']
    · obtain ⟨_, _, q⟩ := key j' r' h2 e2 a'
      subst a
      rw [up_same] at e1; injection e1 with e1; subst e1
      simp only at e3; omega
    · obtain ⟨_, _, q⟩ := key j r h1 e1 a
      subst a'
      rw [up_same] at e2; injection e2 with e2; subst e2
      simp only at e3; omega
    · obtain ⟨p1, p2, _⟩ := key j r h1 e1 a
      obtain ⟨q1, q2, _⟩ := key j' r' h2 e2 a'
      exact hC.inj j j' r r' p1 q1 p2 q2 e3
  · by_cases e : j = k
    · subst e; rw [up_same] at hj; injection hj with hj; rw [← hj]; exact hC.size
    · rw [up_other _ _ e] at hj; exact hC.new j r hj
  · by_cases e : j = k
    · subst e; rw [up_same] at hj; injection hj with hj; rw [← hj]
    · rw [up_other _ _ e] at hj; exact hC.zero j r hj
  · rw [hold b (Nat.lt_of_lt_of_le hb hC.size)]; exact hC.keep b hb
  · rw [hsz]; have := hC.size; omega
/-- a map's entries, written -/
theorem Conc.writeM {w0 w w' : World} {m : GM} {H : GH} (hC : Conc w0 m H w) {k b : Nat} {es es' : List (List Nat × GC)} {ver ver' : Nat} (hk : H k = some (.mp es ver)) (hm : m k = some (b, 0, 0)) (ents : Array MapEntry) (clock : Nat)
    (hh : ∀ j, j ≠ b → w'.heap[j]? = w.heap[j]?) (hb : w'.heap[b]? = some (.map ents clock)) (hsz : w'.heap.size = w.heap.size) (h1 : w'.os = w.os) (h2 : w'.tape = w.tape) (h3 : w'.output = w.output)
    (hl : ents.size = es'.length) (hr : ∀ i, i < es'.length → (ents.getD i default).key = .string (bytesOf (es'.getD i default).1) ∧ (∀ c ∈ (es'.getD i default).1, c < 256) ∧ CRep m (ents.getD i default).val (es'.getD i default).2) :
    Conc w0 m (up H k (.mp es' ver')) w' := by
  have hlk : Live H k := .inr ⟨_, _, hk⟩
  have hlive : ∀ j, Live (up H k (.mp es' ver')) j → Live H j := fun j hj => by
    by_cases e : j = k
    · subst e; exact hlk
    · exact live_up hj e
  refine ⟨fun j t cl v hj => ?_, fun j es v hj => ?_, fun j r hj => ?_, fun j j' r r' g1 g2 e1 e2 e3 => hC.inj j j' r r' (hlive j g1) (hlive j' g2) e1 e2 e3, hC.new, hC.zero, fun c hc => ?_, h1.trans hC.os, h2.trans hC.tape, h3.trans hC.output, by rw [hsz]; exact hC.size⟩
  · have e : j ≠ k := fun e => by subst e; rw [up_same] at hj; injection hj with hj; cases hj
    rw [up_other _ _ e] at hj
    obtain ⟨b', base', size', cc, g1, g2, g3, g4, g5⟩ := hC.obj j t cl v hj
    have hne : b' ≠ b := fun e2 => e (hC.inj j k _ _ (.inl ⟨_, _, _, hj⟩) hlk g1 hm e2)
    exact ⟨b', base', size', cc, g1, by rw [hh b' hne]; exact g2, g3, g4, g5⟩
  · by_cases e : j = k
    · subst e
      rw [up_same] at hj; injection hj with hj; injection hj with e1 e2; subst e1
      exact ⟨b, ents, clock, hm, hb, hl, hr⟩
    · rw [up_other _ _ e] at hj
      obtain ⟨b', en, cl, g1, g2, g3, g4⟩ := hC.objm j es v hj
      have hne : b' ≠ b := fun e2 => e (hC.inj j k _ _ (.inr ⟨_, _, hj⟩) hlk g1 hm e2)
      exact ⟨b', en, cl, g1, by rw [hh b' hne]; exact g2, g3, g4⟩
  · by_cases e : j = k
    · subst e; rw [up_same]; simp
    · rw [up_other _ _ e]; exact hC.dom j r hj
  · have hne : c ≠ b := fun e => by
      have := hC.new k _ hm
      simp only at this; omega
    rw [hh c hne]; exact hC.keep c hc
end Go.Proofs.YtoebfmhogkjmgaaGreatDoor.Gx
