/- Slices made, grown, and handed on; structures built; calls; the rule for a function. No program in sight. -/
import Derived.Test.YtoebfmhogkjmgaaGreatDoorFxE
namespace Go.Proofs.YtoebfmhogkjmgaaGreatDoor.Fx
open Go.RowKit
set_option linter.unusedVariables false
set_option linter.unusedSimpArgs false
section
variable {P : Program} {dst : Option Tmp} {ty0 : TypeId} {pos : String} {af : Array Edge} {g : Option (Nat × Bool)} {ρ : Operand → AV} {H : AHeap}
/-- a type's parts: where each lies, and its size -/
def placesB (P : Program) (ty : TypeId) (l : List (Nat × Nat)) : Bool :=
  match P.underlying ty with
  | some (.struct fs) => (fs.toList.map fun f => (f.offset, (P.info? f.type).map (·.size))) == l.map fun p => (p.1, some p.2)
  | _ => false
class Stc (P : Program) (ty : TypeId) (l : outParam (List (Nat × Nat))) : Prop where
  h : placesB P ty l = true
/-- parts put into cells -/
def fillA (places : List (Nat × Nat)) (cells : List CV) : List (Nat × AV) → Option (List CV)
  | [] => some cells
  | (i, v) :: rest =>
    match places[i]?, cellsAV v with
    | some (off, size), some l => if l.length = size ∧ off + size ≤ cells.length then fillA places (splice cells off l) rest else none
    | _, _ => none
theorem zip_fold (off : Nat) : ∀ (l : List Value) (s : Nat) (cs : Array Value), off + s + l.length ≤ cs.size → ((l.zipIdx s).foldl (fun cs (x : Value × Nat) => cs.setIfInBounds (off + x.2) x.1) cs).toList = splice cs.toList (off + s) l := by
  intro l
  induction l with
  | nil => intro s cs _; simp [splice]
  | cons x t ih =>
    intro s cs h
    rw [List.zipIdx_cons, List.foldl_cons, ih (s + 1) _ (by simp at h ⊢; omega)]
    dsimp only
    apply List.ext_getElem?
    intro j
    have key : ∀ (l : List Value) (j : Nat) (d : Value), j < l.length → l[j]? = some (l.getD j d) := fun l j d hj => by simp [List.getD_eq_getElem?_getD, List.getElem?_eq_getElem hj]
    have hlen1 : (splice (cs.setIfInBounds (off + s) x).toList (off + (s + 1)) t).length = cs.size := by rw [splice_length _ _ _ (by simp at h ⊢; omega)]; simp
    have hlen2 : (splice cs.toList (off + s) (x :: t)).length = cs.size := by rw [splice_length _ _ _ (by simp at h ⊢; omega)]; simp
    by_cases hj : j < cs.size
    · rw [key _ j undef (by rw [hlen1]; exact hj), key _ j undef (by rw [hlen2]; exact hj)]
      rw [splice_getD _ _ _ (by simp at h ⊢; omega), splice_getD _ _ _ (by simp at h ⊢; omega)]
      by_cases h1 : j = off + s
      · subst h1
        rw [if_neg (by omega), if_pos (by simp)]
        simp [List.getD_eq_getElem?_getD, Array.getElem?_setIfInBounds, hj]
      · by_cases h2 : off + (s + 1) ≤ j ∧ j < off + (s + 1) + t.length
        · rw [if_pos h2, if_pos (by simp; omega)]
          have e : j - (off + s) = (j - (off + (s + 1))) + 1 := by omega
          rw [e]; simp
        · rw [if_neg h2, if_neg (by simp; omega)]
          have h3 : off + s ≠ j := fun e => h1 e.symm
          simp [List.getD_eq_getElem?_getD, List.getElem?_set_ne h3]
    · rw [List.getElem?_eq_none (by omega), List.getElem?_eq_none (by omega)]
theorem fill_run {c : Cx} {H : AHeap} {w : World} (places : List (Nat × Nat)) (pl : Nat → Option (Nat × Nat)) (hpl : ∀ i, pl i = places[i]?) : ∀ (parts : List (Nat × Value)) (ps : List (Nat × AV)) (cells : Array Value) (cl r : List CV), parts.length = ps.length →
    (∀ i, i < ps.length → (parts.getD i (0, undef)).1 = (ps.getD i (0, .dead)).1 ∧ VRep c H w (parts.getD i (0, undef)).2 (ps.getD i (0, .dead)).2) → cells.size = cl.length → (∀ i, i < cl.length → CRep c H w (cells.toList.getD i undef) (cl.getD i .dead)) → fillA places cl ps = some r →
    ∃ cells', Instr.fill pl cells parts = some cells' ∧ cells'.size = r.length ∧ ∀ i, i < r.length → CRep c H w (cells'.toList.getD i undef) (r.getD i .dead) := by
  intro parts
  induction parts with
  | nil =>
    intro ps cells cl r h1 _ h3 h4 h5
    have : ps = [] := List.length_eq_zero_iff.1 (by simpa using h1.symm)
    subst this
    injection h5 with h5; subst h5
    exact ⟨cells, rfl, h3, h4⟩
  | cons p t ih =>
    intro ps cells cl r h1 h2 h3 h4 h5
    cases ps with
    | nil => simp at h1
    | cons q u =>
      obtain ⟨i, v⟩ := p
      obtain ⟨i', x⟩ := q
      obtain ⟨e1, e2⟩ := h2 0 (by simp)
      simp at e1 e2
      subst e1
      unfold fillA at h5
      cases hp : places[i]? with
      | none => rw [hp] at h5; cases h5
      | some os =>
        obtain ⟨off, size⟩ := os
        cases hc : cellsAV x with
        | none => rw [hp, hc] at h5; cases h5
        | some l =>
          rw [hp, hc] at h5
          simp only at h5
          split at h5
          · rename_i hs
            obtain ⟨g1, g2⟩ := cells_rep e2 hc
            unfold Instr.fill
            rw [hpl, hp]
            simp only
            have hsz : ¬ ((decide (v.cells.size ≠ size) || decide (off + v.cells.size > cells.size)) = true) := by
              simp only [Bool.or_eq_true, decide_eq_true_eq]
              rw [g1, h3]; omega
            rw [if_neg hsz]
            have hz := zip_fold off v.cells.toList 0 cells (by simp; omega)
            have hfold : v.cells.zipIdx.foldl (fun cs (x : Value × Nat) => cs.setIfInBounds (off + x.2) x.1) cells = (splice cells.toList off v.cells.toList).toArray := by
              rw [← Array.foldl_toList, Array.toList_zipIdx]
              apply Array.ext'
              rw [hz]; simp
            have hlenl : v.cells.toList.length = l.length := by simpa using g1
            refine (ih u _ (splice cl off l) r (by simpa using h1) (fun j hj => by have := h2 (j + 1) (by simpa using hj); simpa using this) ?_ (fun j hj => ?_) h5)
            · rw [hfold]
              simp only [List.size_toArray]
              rw [splice_length _ _ _ (by simp; omega), splice_length _ _ _ (by omega)]
              simpa using h3
            · rw [hfold]
              rw [splice_length _ _ _ (by omega)] at hj
              simp only
              rw [splice_getD _ _ _ (by simp; omega), splice_getD _ _ _ (by omega), hlenl]
              split
              · exact g2 _ (by omega)
              · exact h4 j hj
          · cases h5
theorem places_run {ty : TypeId} {l : List (Nat × Nat)} (h : placesB P ty l = true) : ∃ fs, P.underlying ty = some (.struct fs) ∧ ∀ w, (fs.mapM fun f => do pure (f.offset, ← sizeOf f.type) : Sem (Array (Nat × Nat))).run P w = .ok l.toArray w := by
  unfold placesB at h
  split at h
  · rename_i fs hu
    refine ⟨fs, hu, fun w => ?_⟩
    have h' := eq_of_beq h
    have key : ∀ (fl : List Field) (l : List (Nat × Nat)), (fl.map fun f => (f.offset, (P.info? f.type).map (·.size))) = l.map (fun p => (p.1, some p.2)) → (fl.mapM fun f => do pure (f.offset, ← sizeOf f.type) : Sem (List (Nat × Nat))).run P w = .ok l w := by
      intro fl
      induction fl with
      | nil => intro l hl; cases l with
        | nil => simp
        | cons _ _ => cases hl
      | cons f t ih =>
        intro l hl
        cases l with
        | nil => cases hl
        | cons p l =>
          simp only [List.map_cons, List.cons.injEq, Prod.mk.injEq] at hl
          obtain ⟨⟨e1, e2⟩, e3⟩ := hl
          obtain ⟨p1, p2⟩ := p
          simp only at e1 e2
          cases hi : P.info? f.type with
          | none => rw [hi] at e2; cases e2
          | some inf =>
            rw [hi] at e2
            simp only [Option.map_some, Option.some.injEq] at e2
            have hsize : (sizeOf f.type).run P w = .ok p2 w := by simp [Go.sizeOf, typeInfo, hi, e2]
            rw [List.mapM_cons]
            simp only [Sem.run_bind, hsize, Result.andThen_ok, Sem.run_pure, ih l e3, e1]
    rw [Array.mapM_eq_mapM_toList]
    simp only [map_eq_pure_bind, Sem.run_bind, key fs.toList l h', Result.andThen_ok, Sem.run_pure]
  · cases h
/-- a structure, of its parts -/
theorem step_build (ty : TypeId) (parts : List (Nat × Operand)) {pl : List (Nat × Nat)} {z : List Value} [hS : Stc P ty pl] [hZ : Zro P ty z] {r : List CV} (hr : fillA pl (z.map fun x => .t (.v x)) (parts.map fun p => (p.1, ρ p.2)) = some r) :
    StepK P .p ⟨dst, .build ty parts.toArray, ty0, pos, af, g⟩ ρ H H (.agg r) :=
  stepP_val fun H E c w a _ h => by
    obtain ⟨fs, hu, hpl⟩ := places_run hS.h
    obtain ⟨zv, hz1, hz2⟩ := zro_run hZ.h w
    have hparts : ∀ i, i < (parts.map fun p => (p.1, ρ p.2)).length → ((parts.map fun p => (p.1, a.eval p.2)).getD i (0, undef)).1 = ((parts.map fun p => (p.1, ρ p.2)).getD i (0, .dead)).1 ∧ VRep c H w ((parts.map fun p => (p.1, a.eval p.2)).getD i (0, undef)).2 ((parts.map fun p => (p.1, ρ p.2)).getD i (0, .dead)).2 := fun i hi => by
      have hi' : i < parts.length := by simpa using hi
      simp only [List.getD_eq_getElem?_getD, List.getElem?_map, List.getElem?_eq_getElem hi', Option.map_some, Option.getD_some]
      exact ⟨trivial, h _ (by simp [Op.operands]; exact ⟨_, List.getElem_mem hi'⟩)⟩
    obtain ⟨cells', f1, f2, f3⟩ := fill_run (c := c) (H := H) (w := w) pl (fun i => (pl.toArray[i]? : Option (Nat × Nat))) (fun i => by simp) (parts.map fun p => (p.1, a.eval p.2)) _ zv.cells (z.map fun x => .t (.v x)) r (by simp) hparts (by rw [List.length_map, ← hz1]; simp) (fun i hi => by
      have hi' : i < z.length := by simpa using hi
      rw [hz1]
      have e1 : (z.map fun x => CV.t (.v x)).getD i .dead = .t (.v z[i]) := by simp [List.getD_eq_getElem?_getD, List.getElem?_map, List.getElem?_eq_getElem hi']
      have e2 : z.getD i undef = z[i] := by simp [List.getD_eq_getElem?_getD, List.getElem?_eq_getElem hi']
      rw [e1, e2]
      exact .t (.v _ (List.all_eq_true.1 hZ.one _ (List.getElem_mem hi')))) hr
    refine ⟨.agg cells', ?_, ?_⟩
    · have e : (parts.toArray.map fun (x : Nat × Operand) => (x.1, a.eval x.2)).toList = parts.map fun p => (p.1, a.eval p.2) := by simp
      simp only [execOp, Instr.build, Sem.run_bind, hz2, Result.andThen_ok, run_underlying hu, hpl]
      have hm : (parts.toArray.map fun (i, x) => (i, a.eval x)).toList = parts.map fun p => (p.1, a.eval p.2) := by simp
      rw [hm, f1]
      simp [Result.andThen]
    · have e : Value.agg cells' = .agg cells'.toList.toArray := by simp
      rw [e]
      exact .agg _ _ (by simpa using f2) f3
/-- a part of a structure -/
theorem step_field (ty : TypeId) (x : Operand) (f : Nat) {off n : Nat} {agg : Bool} [hF : Fld P ty f off n agg] {l : List CV} (hx : ρ x = .agg l) (hn : agg = false → n = 1) (hl : off + n ≤ l.length) : StepK P .p ⟨dst, .field ty x f, ty0, pos, af, g⟩ ρ H H (takeAV agg n l off) :=
  stepP_val fun H E c w a _ h => by
    have hv := h x (by simp [Op.operands])
    rw [hx] at hv
    generalize hval : a.eval x = val at hv
    cases hv with
    | agg cs l h1 h2 =>
      have hb := hF.h
      unfold fldB at hb
      split at hb
      · rename_i fs hu
        split at hb
        · rename_i d hd
          simp only [Bool.and_eq_true, beq_iff_eq, decide_eq_true_eq] at hb
          obtain ⟨⟨e1, e2⟩, e3⟩ := hb
          refine ⟨if agg then .agg ((List.range n).map fun j => cs.getD (off + j) undef).toArray else ((List.range n).map fun j => cs.getD (off + j) undef).getD 0 undef, ?_, take_rep (l := l) (i := off) (cs := (List.range n).map fun j => cs.getD (off + j) undef) (by simp) hn hl (fun j hj => ?_)⟩
          · cases agg with
            | true =>
              simp only [execOp, hval, Instr.field, Sem.run_bind, run_underlying hu, Result.andThen_ok, hd, asAgg, Sem.run_pure, part, Shp.isAgg e2, if_true, Shp.size e2, e1]
              congr 3
              apply Array.ext'
              apply List.ext_getElem?
              intro j
              by_cases hj : j < n
              · have hlt : off + j < cs.length := by omega
                simp [List.getElem?_map, List.getElem?_range hj, List.getD_eq_getElem?_getD, hlt, List.getElem?_take, List.getElem?_drop, hj]
              · rw [List.getElem?_eq_none (by simp; omega), List.getElem?_eq_none (by simp; omega)]
            | false =>
              have := hn rfl
              subst this
              have hlt : off < cs.length := by omega
              simp only [execOp, hval, Instr.field, Sem.run_bind, run_underlying hu, Result.andThen_ok, hd, asAgg, Sem.run_pure, part, Shp.isAgg e2, e1]
              simp [hlt, List.getD_eq_getElem?_getD]
          · have := h2 (off + j) (by omega)
            simpa [List.getD_eq_getElem?_getD, List.getElem?_map, List.getElem?_range hj] using this
        · cases hb
      · cases hb
end
end Go.Proofs.YtoebfmhogkjmgaaGreatDoor.Fx
