/- Operations on what is known to the last cell, by the model's own text; and those that take apart and put together. No program in sight. -/
import Derived.Test.YtoebfmhogkjmgaaGreatDoorGxC
import Derived.Test.YtoebfmhogkjmgaaGreatDoorFxL
namespace Go.Proofs.YtoebfmhogkjmgaaGreatDoor.Gx
open Go.RowKit
open Fx (splice splice_getD splice_length shapeB add_plain run_fieldAt run_loadVar_cells)
set_option linter.unusedVariables false
set_option linter.unusedSimpArgs false
/-- what an operation comes to: its value, the blocks that it looks at, those that it makes, those that it makes or changes, the next number -/
structure Res where
  val : GA
  R : List Nat
  N : List Nat
  U : List (Nat × GObj)
  nx : Nat
def ups : GH → List (Nat × GObj) → GH
  | H, [] => H
  | H, (k, o) :: t => ups (up H k o) t
theorem ups_off : ∀ (U : List (Nat × GObj)) (H : GH) (k : Nat), k ∉ U.map (·.1) → ups H U k = H k := by
  intro U
  induction U with
  | nil => intro H k _; rfl
  | cons p t ih =>
    intro H k h
    obtain ⟨j, o⟩ := p
    simp only [List.map_cons, List.mem_cons, not_or] at h
    rw [ups, ih _ _ h.2, up_other _ _ h.1]
theorem ups_on : ∀ (U : List (Nat × GObj)) (H H2 : GH) (k : Nat), (k ∈ U.map (·.1) ∨ H k = H2 k) → ups H U k = ups H2 U k := by
  intro U
  induction U with
  | nil => intro H H2 k h; rcases h with h | h; (cases h); exact h
  | cons p t ih =>
    intro H H2 k h
    obtain ⟨j, o⟩ := p
    refine ih _ _ k ?_
    by_cases e : k = j
    · subst e; right; rw [up_same, up_same]
    · rcases h with h | h
      · rw [List.map_cons, List.mem_cons] at h
        rcases h with h | h
        · exact absurd h e
        · exact .inl h
      · right; rw [up_other _ _ e, up_other _ _ e]; exact h
theorem stepK_of {P : Program} {o : Oper} {ρ : Operand → GA} {H : GH} {v : GA} (R N : List Nat) (U : List (Nat × GObj)) (hN : ∀ k ∈ N, H k = none) (h : ∀ H2, (∀ k ∈ R, H2 k = H k) → (∀ k ∈ N, H2 k = none) → Step P o ρ H2 (ups H2 U) v) :
    StepK P ⟨(· ∈ R), (· ∈ N), (· ∈ U.map (·.1))⟩ o ρ H (ups H U) v := by
  refine ⟨fun k hk => ups_off U H k hk, hN, fun H2 h1 h2 => ?_⟩
  have e : mix (· ∈ U.map (·.1)) (ups H U) H2 = ups H2 U := by
    funext k
    by_cases hk : k ∈ U.map (·.1)
    · rw [mix_at hk]; exact ups_on U H H2 k (.inl hk)
    · rw [mix_off hk, ups_off U H2 k hk]
  rw [e]; exact h H2 h1 h2
section
variable {P : Program} {o : Oper} {ρ : Operand → GA}
theorem step_val {H : GH} {v : GA} (h : ∀ (w0 : World) (m : GM) (w : World) (a : Act), Conc w0 m H w → (∀ x ∈ o.op.operands, VRep m (a.eval x) (ρ x)) → ∃ val, (execOp a.eval o).run P w = .ok (.value val) w ∧ VRep m val v) : Step P o ρ H H v := by
  intro w0 m a w K Q hC hx hK
  obtain ⟨val, h1, h2⟩ := h w0 m w a hC hx
  unfold Oper.wp
  rw [h1]
  exact hK val m w hC (Ext.refl _) h2
theorem step_skip {H : GH} {H' : GH} (h : ∀ (w0 : World) (m : GM) (w : World) (a : Act), Conc w0 m H w → (∀ x ∈ o.op.operands, VRep m (a.eval x) (ρ x)) → ∃ m' w', (execOp a.eval o).run P w = .ok .skip w' ∧ Conc w0 m' H' w' ∧ Ext m m') : Step P o ρ H H' (.tup []) := by
  intro w0 m a w K Q hC hx hK
  obtain ⟨m', w', h1, h2, h3⟩ := h w0 m w a hC hx
  unfold Oper.wp
  rw [h1]
  exact hK _ m' w' h2 h3 (.tup [] [] rfl (fun i hi => absurd hi (Nat.not_lt_zero _)))
theorem step_new {H : GH} {H' : GH} {v : GA} (h : ∀ (w0 : World) (m : GM) (w : World) (a : Act), Conc w0 m H w → (∀ x ∈ o.op.operands, VRep m (a.eval x) (ρ x)) → ∃ val m' w', (execOp a.eval o).run P w = .ok (.value val) w' ∧ Conc w0 m' H' w' ∧ Ext m m' ∧ VRep m' val v) : Step P o ρ H H' v := by
  intro w0 m a w K Q hC hx hK
  obtain ⟨val, m', w', h1, h2, h3, h4⟩ := h w0 m w a hC hx
  unfold Oper.wp
  rw [h1]
  exact hK _ m' w' h2 h3 h4
/-- what is known to the last cell -/
def gvC : GC → Option Value
  | .v x => some x
  | .s l => some (.string (bytesOf l))
  | .fn f [] [] => some (.func f #[] #[])
  | _ => none
def gvL : List GC → Option (List Value)
  | [] => some []
  | x :: t => match gvC x, gvL t with | some v, some l => some (v :: l) | _, _ => none
def gv : GA → Option Value
  | .c x => gvC x
  | .agg l => (gvL l).map fun l => .agg l.toArray
  | _ => none
theorem gvC_eq {m : GM} {v y : Value} {x : GC} (h : CRep m v x) (he : gvC x = some y) : v = y := by
  cases h with
  | v x _ => simp only [gvC, Option.some.injEq] at he; exact he
  | s l _ => simp only [gvC, Option.some.injEq] at he; exact he
  | fn f fs cs vs us h1 h2 hf hc =>
    cases fs with
    | cons _ _ => simp [gvC] at he
    | nil => cases cs with
      | cons _ _ => simp [gvC] at he
      | nil =>
        simp only [gvC, Option.some.injEq] at he
        have e1 : vs = [] := List.length_eq_zero_iff.1 (by simpa using h1)
        have e2 : us = [] := List.length_eq_zero_iff.1 (by simpa using h2)
        rw [← he, e1, e2]
  | _ => simp [gvC] at he
theorem gvL_eq {m : GM} : ∀ (l : List GC) (cs ys : List Value), cs.length = l.length → (∀ i, i < l.length → CRep m (cs.getD i undef) (l.getD i default)) → gvL l = some ys → cs = ys := by
  intro l
  induction l with
  | nil => intro cs ys h1 _ h; simp [gvL] at h; rw [h]; exact List.length_eq_zero_iff.1 h1
  | cons x t ih =>
    intro cs ys h1 h2 h
    cases cs with
    | nil => simp at h1
    | cons u cs =>
      unfold gvL at h
      cases hx : gvC x with
      | none => rw [hx] at h; cases h
      | some v =>
        cases hl : gvL t with
        | none => rw [hx, hl] at h; cases h
        | some l =>
          rw [hx, hl] at h
          simp at h
          rw [← h]
          have h0 := h2 0 (by simp)
          have e0 : u = v := gvC_eq (x := x) (by simpa using h0) hx
          rw [e0, ih cs l (by simpa using h1) (fun i hi => by have := h2 (i + 1) (by simpa using hi); simpa using this) hl]
theorem gv_eq {m : GM} {v y : Value} {x : GA} (h : VRep m v x) (he : gv x = some y) : v = y := by
  cases h with
  | c h => exact gvC_eq h he
  | agg cs l h1 h2 =>
    simp only [gv] at he
    cases hl : gvL l with
    | none => rw [hl] at he; cases he
    | some ys =>
      rw [hl] at he
      injection he with he
      have e := gvL_eq l cs ys h1 h2 hl
      subst e
      exact he
  | _ => simp [gv] at he
/-- what asks nothing but the program -/
def quiet {α : Type} (P : Program) : Sem α → Option α
  | .pure a => some a
  | .program k => quiet P (k P)
  | .mark _ k => quiet P k
  | _ => none
theorem quiet_run {α : Type} : ∀ (s : Sem α) (y : α), quiet P s = some y → ∀ w, s.run P w = .ok y w := by
  intro s
  induction s with
  | pure a => intro y h w; injection h with h; subst h; rfl
  | program k ih => intro y h w; exact ih P y h w
  | mark m k ih => intro y h w; exact ih y h w
  | _ => intro y h; cases h
def notSel : Op → Bool
  | .select _ _ => false
  | _ => true
/-- an operation on what is known to the last cell -/
def exactR (P : Program) (ρ : Operand → GA) (o : Oper) : Option GA :=
  if notSel o.op && o.op.operands.toList.all (fun x => (gv (ρ x)).isSome) then
    match quiet P (execOp (fun x => (gv (ρ x)).getD undef) o) with
    | some (.value y) => some (constG y)
    | _ => none
  else none
theorem exact_ok {v : GA} (h : exactR P ρ o = some v) (H : GH) : Step P o ρ H H v := step_val fun w0 m w a hC hx => by
  unfold exactR at h
  split at h
  · rename_i hc
    rw [Bool.and_eq_true, List.all_eq_true] at hc
    obtain ⟨c1, c2⟩ := hc
    split at h
    · rename_i y hy
      injection h with h; subst h
      refine ⟨y, ?_, constG_rep m y⟩
      rw [execOp_congr (ρ := a.eval) (ρ' := fun x => (gv (ρ x)).getD undef) o (fun cs b e => by rw [e] at c1; cases c1) (fun x hm => by
        obtain ⟨z, hz⟩ := Option.isSome_iff_exists.1 (c2 x (Array.mem_toList_iff.2 hm))
        simp only [hz, Option.getD_some]
        exact gv_eq (hx x hm) hz)]
      exact quiet_run _ _ hy w
    · cases h
  · cases h
/-- of cells -/
def takeG (agg : Bool) (n : Nat) (l : List GC) (i : Nat) : GA := if agg then .agg ((l.drop i).take n) else .c (l.getD i default)
theorem take_rep {m : GM} {l : List GC} {agg : Bool} {n i : Nat} {cs : List Value} (hl : cs.length = n) (hn : agg = false → n = 1) (hi : i + n ≤ l.length) (h : ∀ j, j < n → CRep m (cs.getD j undef) (l.getD (i + j) default)) :
    VRep m (if agg then .agg cs.toArray else cs.getD 0 undef) (takeG agg n l i) := by
  unfold takeG
  cases agg with
  | true =>
    simp only [if_true]
    refine .agg _ _ (by simp; omega) (fun j hj => ?_)
    have hj' : j < n := by simp at hj; omega
    have e : ((l.drop i).take n).getD j default = l.getD (i + j) default := by
      simp [List.getD_eq_getElem?_getD, List.getElem?_take, hj', List.getElem?_drop]
    rw [e]
    exact h j hj'
  | false =>
    have h1 := hn rfl
    subst h1
    have := h 0 (by omega)
    exact .c (by simpa using this)
def cellsG : GA → Option (List GC)
  | .c x => some [x]
  | .agg l => some l
  | _ => none
theorem cells_rep {m : GM} {v : Value} {x : GA} {l : List GC} (h : VRep m v x) (hl : cellsG x = some l) : v.cells.size = l.length ∧ (∀ i, i < l.length → CRep m (v.cells.toList.getD i undef) (l.getD i default)) := by
  cases h with
  | c h =>
    rename_i x
    injection hl with hl; subst hl
    have h1 := h.one
    have e : v.cells = #[v] := by cases v <;> first | rfl | cases h1
    rw [e]
    refine ⟨rfl, fun i hi => ?_⟩
    have : i = 0 := by simpa using hi
    subst this
    simpa using h
  | agg cs l h1 h2 =>
    injection hl with hl; subst hl
    exact ⟨by simpa [Value.cells] using h1, fun i hi => by simpa [Value.cells] using h2 i hi⟩
  | _ => cases hl
/-- a block's cells, in memory -/
theorem obj_cell {w0 : World} {m : GM} {H : GH} {w : World} (hC : Conc w0 m H w) {k : Nat} {ty : TypeId} {cells : List GC} {ver : Nat} (hk : H k = some (.cells ty cells ver)) {b base size : Nat} (hm : m k = some (b, base, size)) {i : Nat} (hi : i < cells.length) :
    ∃ x, w.cell? ⟨b, base + i, none⟩ = some x ∧ CRep m x (cells.getD i default) := by
  obtain ⟨b', base', size', cs, g1, g2, g3, g4, g5⟩ := hC.obj k _ _ _ hk
  rw [hm] at g1; injection g1 with g1; injection g1 with q1 g1; injection g1 with q2 q3
  subst q1; subst q2; subst q3
  have hlt : base + i < cs.size := by omega
  refine ⟨cs.getD (base + i) undef, ?_, g5 i hi⟩
  simp [World.cell?, g2, hlt]
theorem obj_at {w0 : World} {m : GM} {H : GH} {w : World} (hC : Conc w0 m H w) {k : Nat} {ty : TypeId} {cells : List GC} {ver : Nat} (hk : H k = some (.cells ty cells ver)) : ∃ b base size, m k = some (b, base, size) ∧ cells.length ≤ size := by
  obtain ⟨b', base', size', cs, g1, g2, g3, g4, g5⟩ := hC.obj k _ _ _ hk
  exact ⟨_, _, _, g1, g4⟩
theorem rep_p {m : GM} {v : Value} {k i : Nat} (h : VRep m v (.c (.p k i))) : ∃ b base size, m k = some (b, base, size) ∧ v = .pointer (some ⟨b, base + i, none⟩) := by
  cases h with
  | c h => cases h with
    | p h => exact ⟨_, _, _, h, rfl⟩
theorem rep_sl {m : GM} {v : Value} {k off len cap n : Nat} {ex : Bool} (h : VRep m v (.c (.sl k off len cap n ex))) : ∃ b base size c, m k = some (b, base, size) ∧ v = .slice (some ⟨b, base + off, none⟩) len c ∧ cap ≤ c ∧ (ex = true → c = cap) ∧ off + c * n ≤ size ∧ len ≤ cap ∧ 0 < n ∧ c ≤ maxLen := by
  cases h with
  | c h => cases h with
    | sl h h1 h2 h3 h4 h5 h6 => exact ⟨_, _, _, _, h, rfl, h1, h2, h3, h4, h5, h6⟩
theorem rep_int {m : GM} {v : Value} {k : IntKind} {i : Int} (h : VRep m v (.c (.v (.int k i)))) : v = .int k i := gv_eq h (y := .int k i) rfl
/-- cells of memory, and what they hold -/
def mapR (f : Nat → Value) (n : Nat) : List Value := (List.range n).map f
theorem mapR_len (f : Nat → Value) (n : Nat) : (mapR f n).length = n := by simp [mapR]
theorem mapR_get (f : Nat → Value) (n j : Nat) (h : j < n) : (mapR f n).getD j undef = f j := by simp [mapR, List.getD_eq_getElem?_getD, List.getElem?_map, List.getElem?_range h]
open Classical in
noncomputable def cellOr (w : World) (b i : Nat) : Value := (w.cell? ⟨b, i, none⟩).getD undef
theorem cellOr_eq {w : World} {b i : Nat} {x : Value} (h : w.cell? ⟨b, i, none⟩ = some x) : cellOr w b i = x := by unfold cellOr; rw [h]; rfl
variable {dst : Option Tmp} {ty0 : TypeId} {pos : String} {af : Array Edge} {g : Option (Nat × Bool)}
theorem move_ok (x : Operand) (H : GH) : Step P ⟨dst, .move x, ty0, pos, af, g⟩ ρ H H (ρ x) :=
  step_val fun w0 m w a _ h => ⟨a.eval x, rfl, h x (by simp [Op.operands])⟩
theorem assign_ok (x : Operand) (H : GH) : Step P ⟨dst, .assign x, ty0, pos, af, g⟩ ρ H H (ρ x) :=
  step_val fun w0 m w a _ h => ⟨a.eval x, rfl, h x (by simp [Op.operands])⟩
theorem load_ok (ty : TypeId) (x : Operand) {agg : Bool} {n : Nat} (hS : shapeB P ty agg n = true) {k i : Nat} {vt : TypeId} {cells : List GC} {ver : Nat} {H : GH} (hx : ρ x = .c (.p k i)) (ho : H k = some (.cells vt cells ver)) (hn : agg = false → n = 1) (hi : i + n ≤ cells.length) :
    Step P ⟨dst, .load ty x, ty0, pos, af, g⟩ ρ H H (takeG agg n cells i) := step_val fun w0 m w a hC h => by
  have hv := h x (by simp [Op.operands])
  rw [hx] at hv
  obtain ⟨b, base, size, hm, e⟩ := rep_p hv
  have hcell : ∀ j, j < n → w.cell? ⟨b, base + i + j, none⟩ = some ((mapR (fun j => cellOr w b (base + i + j)) n).getD j undef) := fun j hj => by
    obtain ⟨y, h1, _⟩ := obj_cell hC ho hm (i := i + j) (by omega)
    rw [← Nat.add_assoc] at h1
    rw [mapR_get _ _ _ hj, cellOr_eq h1]; exact h1
  have hrun := run_loadVar_cells hS hn w b (base + i) _ (mapR_len _ _) hcell
  refine ⟨_, ?_, take_rep (l := cells) (i := i) (cs := mapR (fun j => cellOr w b (base + i + j)) n) (mapR_len _ _) hn hi (fun j hj => ?_)⟩
  · simp only [execOp, e, Instr.loadAt, Instr.sureAddr, Sem.run_bind, Sem.run_pure, Result.andThen_ok, hrun]
  · obtain ⟨y, h1, h2⟩ := obj_cell hC ho hm (i := i + j) (by omega)
    rw [← Nat.add_assoc] at h1
    rw [mapR_get _ _ _ hj, cellOr_eq h1]; exact h2
/-- cells put in the place of others, in a block -/
theorem store_run {w0 : World} {m : GM} {H : GH} {w : World} (hC : Conc w0 m H w) {k i : Nat} {vt : TypeId} {cells l : List GC} {ver ver' : Nat} (ho : H k = some (.cells vt cells ver)) {b base size : Nat} (hm : m k = some (b, base, size)) (vs : List Value) (hl : vs.length = l.length) (hi : i ≤ cells.length) (hi2 : i + l.length ≤ size)
    (hr : ∀ j, j < l.length → CRep m (vs.getD j undef) (l.getD j default)) :
    ∃ w', (storeCells ⟨b, base + i, none⟩ vs).run P w = .ok () w' ∧ Conc w0 m (up H k (.cells vt (cells.take i ++ l ++ cells.drop (i + l.length)) ver')) w' := by
  obtain ⟨b', base', size', cs, g1, g2, g3, g4, g5⟩ := hC.obj k _ _ _ ho
  rw [hm] at g1; injection g1 with g1; injection g1 with q1 g1; injection g1 with q2 q3
  subst q1; subst q2; subst q3
  have hone : ∀ v ∈ vs, v.oneCell' = true := fun v hv => by
    obtain ⟨j, hj, rfl⟩ := List.mem_iff_getElem.1 hv
    have := (hr j (by omega)).one
    simpa [List.getD_eq_getElem?_getD, List.getElem?_eq_getElem hj] using this
  have hrun := run_storeCells_at (P := P) b (base + i) vt vs 0 cs w g2 (by omega) hone
  refine ⟨w.setRow b (splice cs.toList (base + i) vs).toArray, ?_, ?_⟩
  · rw [hrun]; simp [splice]
  · have hlen : base + i + vs.length ≤ cs.toList.length := by simp; omega
    refine hC.write ho hm (splice cs.toList (base + i) vs).toArray (fun j hj => setRow_other w b j _ hj) (setRow_heap w b cs _ vt _ g2) (by simp) rfl rfl rfl ?_ ?_ (fun j hj => ?_)
    · simp only [List.size_toArray]; rw [splice_length _ _ _ hlen]; simpa using g3
    · simp only [List.length_append, List.length_take, List.length_drop]; omega
    · simp only [List.length_append, List.length_take, List.length_drop] at hj
      have e1 : (splice cs.toList (base + i) vs).toArray.getD (base + j) undef = (splice cs.toList (base + i) vs).getD (base + j) undef := by simp [List.getD_eq_getElem?_getD]
      rw [e1, splice_getD _ _ _ hlen]
      rw [List.append_assoc]
      by_cases h1 : j < i
      · rw [if_neg (by omega)]
        have e2 : (cells.take i ++ (l ++ cells.drop (i + l.length))).getD j default = cells.getD j default := by
          simp only [List.getD_eq_getElem?_getD]
          rw [List.getElem?_append_left (by simp; omega), List.getElem?_take, if_pos h1]
        rw [e2]
        have := g5 j (by omega)
        simpa using this
      · by_cases h2 : j < i + l.length
        · rw [if_pos (by omega)]
          have e2 : (cells.take i ++ (l ++ cells.drop (i + l.length))).getD j default = l.getD (j - i) default := by
            simp only [List.getD_eq_getElem?_getD]
            rw [List.getElem?_append_right (by simp; omega), List.length_take, Nat.min_eq_left hi, List.getElem?_append_left (by omega)]
          rw [e2, show base + j - (base + i) = j - i by omega]
          exact hr _ (by omega)
        · rw [if_neg (by omega)]
          have e2 : (cells.take i ++ (l ++ cells.drop (i + l.length))).getD j default = cells.getD j default := by
            simp only [List.getD_eq_getElem?_getD]
            rw [List.getElem?_append_right (by simp; omega), List.length_take, Nat.min_eq_left hi, List.getElem?_append_right (by omega), List.getElem?_drop]
            congr 2; omega
          rw [e2]
          have := g5 j (by omega)
          simpa using this
theorem store_ok (ty : TypeId) (x y : Operand) {agg : Bool} {n : Nat} (hS : shapeB P ty agg n = true) {k i : Nat} {vt : TypeId} {cells l : List GC} {ver ver' : Nat} {H : GH} (hx : ρ x = .c (.p k i)) (ho : H k = some (.cells vt cells ver)) (hy : cellsG (ρ y) = some l) (hl : l.length = n) (hi : i + n ≤ cells.length) :
    Step P ⟨dst, .store ty x y, ty0, pos, af, g⟩ ρ H (up H k (.cells vt (cells.take i ++ l ++ cells.drop (i + l.length)) ver')) (.tup []) := step_skip fun w0 m w a hC h => by
  have hv := h x (by simp [Op.operands])
  rw [hx] at hv
  obtain ⟨b, base, size, hm, e⟩ := rep_p hv
  obtain ⟨q1, q2⟩ := cells_rep (h y (by simp [Op.operands])) hy
  obtain ⟨b', base', size', hm', hsz⟩ := obj_at hC ho
  rw [hm] at hm'; injection hm' with hm'; injection hm' with p1 hm'; injection hm' with p2 p3
  subst p1; subst p2; subst p3
  obtain ⟨w', r1, r2⟩ := store_run (P := P) hC (l := l) (ver' := ver') ho hm (i := i) (a.eval y).cells.toList (by simpa using q1) (by omega) (by omega) q2
  refine ⟨m, w', ?_, r2, Ext.refl _⟩
  simp only [execOp, e, Instr.storeAt, Instr.sureAddr, storeVar, Sem.run_bind, Sem.run_pure, Result.andThen_ok, Fx.Shp.size hS]
  rw [if_neg (by simp; omega), r1]
  rfl
theorem box_run {w0 : World} {m : GM} {H : GH} {w : World} (hC : Conc w0 m H w) {k : Nat} (hk : H k = none) (ty : TypeId) (cs : List Value) (l : List GC) (ver : Nat) (h1 : cs.length = l.length) (h2 : ∀ i, i < l.length → CRep m (cs.getD i undef) (l.getD i default)) :
    ∃ m', Conc w0 m' (up H k (.cells ty l ver)) (w.alloc (.cells cs.toArray ty)) ∧ Ext m m' ∧ m' k = some (w.heap.size, 0, l.length) := by
  obtain ⟨g1, g2⟩ := hC.alloc hk ty cs.toArray l ver (by simp; omega) (fun i hi => by simpa using h2 i hi)
  refine ⟨_, g1, g2, ?_⟩
  rw [up_same]; simp [h1]
theorem box_ok (k : Nat) (ty : TypeId) (x : Operand) {l : List GC} {ver : Nat} {H : GH} (hk : H k = none) (hx : cellsG (ρ x) = some l) : Step P ⟨dst, .box ty x, ty0, pos, af, g⟩ ρ H (up H k (.cells ty l ver)) (.c (.p k 0)) := step_new fun w0 m w a hC h => by
  obtain ⟨h1, h2⟩ := cells_rep (h x (by simp [Op.operands])) hx
  obtain ⟨m', g1, g2, g3⟩ := box_run hC hk ty (a.eval x).cells.toList l ver (by simpa using h1) h2
  refine ⟨.pointer (some ⟨w.heap.size, 0 + 0, none⟩), m', _, ?_, g1, g2, .c (.p g3)⟩
  simp [execOp, Instr.box, Go.newVar, newRow, newObj, Sem.run]
theorem alloc_ok (k : Nat) (ty : TypeId) {l : List Value} (hZ : Fx.zro P ty = some l) {ver : Nat} {H : GH} (hk : H k = none) : Step P ⟨dst, .alloc ty, ty0, pos, af, g⟩ ρ H (up H k (.cells ty (l.map constC) ver)) (.c (.p k 0)) := step_new fun w0 m w a hC h => by
  obtain ⟨z1, z2⟩ := Fx.zro_ok hZ
  obtain ⟨z, h1, h2⟩ := Fx.zro_run z1 w
  obtain ⟨m', g1, g2, g3⟩ := box_run hC hk ty l (l.map constC) ver (by simp) (fun i hi => by
    have hi' : i < l.length := by simpa using hi
    have e1 : (l.map constC).getD i default = constC l[i] := by simp [List.getD_eq_getElem?_getD, List.getElem?_map, List.getElem?_eq_getElem hi']
    have e2 : l.getD i undef = l[i] := by simp [List.getD_eq_getElem?_getD, List.getElem?_eq_getElem hi']
    rw [e1, e2]
    exact constC_rep m _ (List.all_eq_true.1 z2 _ (List.getElem_mem hi')))
  refine ⟨.pointer (some ⟨w.heap.size, 0 + 0, none⟩), m', _, ?_, g1, g2, .c (.p g3)⟩
  have e : z.cells = l.toArray := by rw [← h1]
  simp [execOp, Instr.alloc, h2, Go.newVar, newRow, newObj, Sem.run, e]
theorem field_p_ok (sty : TypeId) (x : Operand) (f : Nat) {off n : Nat} {agg : Bool} (hF : Fx.fldB P sty f off n agg = true) {k i : Nat} (hx : ρ x = .c (.p k i)) (H : GH) : Step P ⟨dst, .fieldAddr sty x f, ty0, pos, af, g⟩ ρ H H (.c (.p k (i + off))) := step_val fun w0 m w a _ h => by
  have hv := h x (by simp [Op.operands])
  rw [hx] at hv
  obtain ⟨b, base, size, hm, e⟩ := rep_p hv
  refine ⟨.pointer (some ⟨b, base + (i + off), none⟩), ?_, .c (.p hm)⟩
  simp only [execOp, e, Sem.run_bind, run_fieldAt hF, Result.andThen_ok, Sem.run_pure, Nat.add_assoc]
theorem index_sl_ok (sty : TypeId) (x ix : Operand) {e : TypeId} {n bytes : Nat} (hS : Fx.sliB P sty e n bytes = true) {k off len cap : Nat} {ex : Bool} {kd : IntKind} {i : Int} (hx : ρ x = .c (.sl k off len cap n ex)) (hi : ρ ix = .c (.v (.int kd i))) (h0 : 0 ≤ i) (h1 : i < len) (H : GH) :
    Step P ⟨dst, .indexAddr sty x ix, ty0, pos, af, g⟩ ρ H H (.c (.p k (off + i.toNat * n))) := step_val fun w0 m w a _ h => by
  have hv := h x (by simp [Op.operands])
  have hw := h ix (by simp [Op.operands])
  rw [hx] at hv
  rw [hi] at hw
  have ew := rep_int hw
  obtain ⟨b, base, size, c, hm, ev', _⟩ := rep_sl hv
  have hF := Fx.sli_facts hS
  obtain ⟨inf, z, hinf, hz, hsz, hby, hzs⟩ := hF.i
  refine ⟨.pointer (some ⟨b, base + (off + i.toNat * n), none⟩), ?_, .c (.p hm)⟩
  simp only [execOp, ev', ew]
  simp [Instr.indexAt, asIntOf, run_underlying hF.u, h0, h1, Go.sizeOf, typeInfo, hinf, hsz, add_plain, Nat.add_assoc]
theorem index_p_ok (sty : TypeId) (x ix : Operand) {len n : Nat} (hA : ∃ e, P.underlying sty = some (.array len e) ∧ ∃ i, P.info? e = some i ∧ i.size = n) {k j : Nat} {kd : IntKind} {i : Int} (hx : ρ x = .c (.p k j)) (hi : ρ ix = .c (.v (.int kd i))) (h0 : 0 ≤ i) (h1 : i < len) (H : GH) :
    Step P ⟨dst, .indexAddr sty x ix, ty0, pos, af, g⟩ ρ H H (.c (.p k (j + i.toNat * n))) := step_val fun w0 m w a _ h => by
  obtain ⟨e, hu, inf, hinf, hsz⟩ := hA
  have hv := h x (by simp [Op.operands])
  have hw := h ix (by simp [Op.operands])
  rw [hx] at hv
  rw [hi] at hw
  have ew := rep_int hw
  obtain ⟨b, base, size, hm, ev'⟩ := rep_p hv
  refine ⟨.pointer (some ⟨b, base + (j + i.toNat * n), none⟩), ?_, .c (.p hm)⟩
  simp only [execOp, ev', ew]
  simp [Instr.indexAt, asIntOf, run_underlying hu, Instr.sureAddr, h0, h1, Go.sizeOf, typeInfo, hinf, hsz, add_plain, Nat.add_assoc]
theorem nil_p_ok (x : Operand) {k i : Nat} (hx : ρ x = .c (.p k i)) (H : GH) : Step P ⟨dst, .nilCheck x, ty0, pos, af, g⟩ ρ H H (.c (.p k i)) := step_val fun w0 m w a _ h => by
  have hv := h x (by simp [Op.operands])
  rw [hx] at hv
  obtain ⟨b, base, size, hm, e⟩ := rep_p hv
  exact ⟨a.eval x, by simp [execOp, e], hv⟩
theorem nil_fn_ok (x : Operand) {f : FuncId} {fs cs : List GC} (hx : ρ x = .c (.fn (.func f) fs cs)) (H : GH) : Step P ⟨dst, .nilCheck x, ty0, pos, af, g⟩ ρ H H (.c (.fn (.func f) fs cs)) := step_val fun w0 m w a _ h => by
  have hv := h x (by simp [Op.operands])
  rw [hx] at hv
  generalize hval : a.eval x = q at hv
  refine ⟨q, ?_, hv⟩
  cases hv with
  | c hv => cases hv with
    | fn f fs cs vs us h1 h2 hf hc => simp [execOp, hval]
theorem extract_ok (x : Operand) (i : Nat) {l : List GA} (hx : ρ x = .tup l) (hi : i < l.length) (H : GH) : Step P ⟨dst, .extract x i, ty0, pos, af, g⟩ ρ H H (l.getD i .dead) := step_val fun w0 m w a _ h => by
  have hv := h x (by simp [Op.operands])
  rw [hx] at hv
  generalize hval : a.eval x = val at hv
  cases hv with
  | tup vs l hl hr =>
    refine ⟨vs.getD i undef, ?_, hr i hi⟩
    have hlt : i < vs.length := by omega
    simp [execOp, hval, Instr.extract, hlt]
theorem pick_ok (x y z : Operand) {b : Bool} (hx : ρ x = .c (.v (.bool b))) (H : GH) : Step P ⟨dst, .pick x y z, ty0, pos, af, g⟩ ρ H H (if b then ρ y else ρ z) := step_val fun w0 m w a _ h => by
  have hb := h x (by simp [Op.operands])
  rw [hx] at hb
  have e := gv_eq hb (y := .bool b) rfl
  refine ⟨if b then a.eval y else a.eval z, by simp [execOp, e, asBool], ?_⟩
  cases b
  · exact h z (by simp [Op.operands])
  · exact h y (by simp [Op.operands])
end
end Go.Proofs.YtoebfmhogkjmgaaGreatDoor.Gx
