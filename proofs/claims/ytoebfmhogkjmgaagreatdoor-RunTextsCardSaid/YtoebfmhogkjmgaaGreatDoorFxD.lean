/- The single operations, on what the slots and variables hold: those that change nothing. No program in sight. -/
import Derived.Test.YtoebfmhogkjmgaaGreatDoorFxC
namespace Go.Proofs.YtoebfmhogkjmgaaGreatDoor.Fx
open Go.RowKit
set_option linter.unusedVariables false
set_option linter.unusedSimpArgs false
/-- a type's size in cells, and whether its values are made of parts -/
def shapeB (P : Program) (ty : TypeId) (agg : Bool) (n : Nat) : Bool :=
  (match P.underlying ty with | some (.struct _) | some (.array _ _) => agg | some _ => !agg | none => false) && (match P.info? ty with | some i => i.size == n | none => false)
class Shp (P : Program) (ty : TypeId) (agg : outParam Bool) (n : outParam Nat) : Prop where
  h : shapeB P ty agg n = true
def sliB (P : Program) (ty e : TypeId) (n bytes : Nat) : Bool :=
  (match P.underlying ty with | some (.slice e') => e' == e | _ => false) && (match P.info? e with | some i => i.size == n && i.bytes == bytes && (match i.zero with | some z => z.cells.size == n | none => false) | none => false) && decide (0 < n)
class Sli (P : Program) (ty : TypeId) (e : outParam TypeId) (n : outParam Nat) (bytes : outParam Nat) : Prop where
  h : sliB P ty e n bytes = true
def fldB (P : Program) (ty : TypeId) (f : Nat) (off n : Nat) (agg : Bool) : Bool :=
  match P.underlying ty with
  | some (.struct fs) => match fs[f]? with | some d => d.offset == off && shapeB P d.type agg n && decide (0 < n) | none => false
  | _ => false
class Fld (P : Program) (ty : TypeId) (f : Nat) (off : outParam Nat) (n : outParam Nat) (agg : outParam Bool) : Prop where
  h : fldB P ty f off n agg = true
def arrB (P : Program) (ty : TypeId) (len n : Nat) (agg : Bool) : Bool :=
  match P.underlying ty with
  | some (.array l e) => l == len && shapeB P e agg n && decide (0 < n) && decide (1 < len)
  | _ => false
class Arr (P : Program) (ty : TypeId) (len : outParam Nat) (n : outParam Nat) (agg : outParam Bool) : Prop where
  h : arrB P ty len n agg = true
class Zro (P : Program) (ty : TypeId) (l : outParam (List Value)) : Prop where
  h : (P.info? ty).map (fun i => i.zero.map (fun z => z.cells.toList)) = some (some l)
  one : l.all (·.oneCell') = true
section
variable {P : Program}
theorem Shp.isAgg {ty : TypeId} {agg : Bool} {n : Nat} (h : shapeB P ty agg n = true) (w : World) : (isAgg ty).run P w = .ok agg w := by
  unfold shapeB at h
  cases hu : P.underlying ty with
  | none => rw [hu] at h; simp at h
  | some d =>
    rw [hu] at h
    cases d <;> simp at h <;> simp [Go.isAgg, run_underlying hu, h.1]
theorem Shp.size {ty : TypeId} {agg : Bool} {n : Nat} (h : shapeB P ty agg n = true) (w : World) : (sizeOf ty).run P w = .ok n w := by
  unfold shapeB at h
  cases hi : P.info? ty with
  | none => rw [hi] at h; simp at h
  | some i =>
    rw [hi] at h
    simp at h
    simp [Go.sizeOf, typeInfo, hi, h.2]
theorem step_val {o : Oper} {ρ : Operand → AV} {H : AHeap} {v : AV} (h : ∀ (E : Ent) (c : Cx) (w : World) (a : Act), Conc E c H w → (∀ x ∈ o.op.operands, VRep c H w (a.eval x) (ρ x)) → ∃ val, (execOp a.eval o).run P w = .ok (.value val) w ∧ VRep c H w val v) : Step P o ρ H H v := by
  intro E c a w K Q hC hx hK
  obtain ⟨val, h1, h2⟩ := h E c w a hC hx
  unfold Oper.wp
  rw [h1]
  exact hK val c w hC (Later.refl _ _ _) h2
theorem stepP_val {o : Oper} {ρ : Operand → AV} {H : AHeap} {v : AV} (h : ∀ (H : AHeap) (E : Ent) (c : Cx) (w : World) (a : Act), Conc E c H w → (∀ x ∈ o.op.operands, VRep c H w (a.eval x) (ρ x)) → ∃ val, (execOp a.eval o).run P w = .ok (.value val) w ∧ VRep c H w val v) : StepK P .p o ρ H H v :=
  ⟨rfl, fun H2 => step_val (h H2)⟩
variable {dst : Option Tmp} {ty0 : TypeId} {pos : String} {af : Array Edge} {g : Option (Nat × Bool)} {ρ : Operand → AV} {H : AHeap}
theorem step_move (x : Operand) {v : AV} (hx : ρ x = v) : StepK P .p ⟨dst, .move x, ty0, pos, af, g⟩ ρ H H v :=
  stepP_val fun H E c w a _ h => ⟨a.eval x, rfl, hx ▸ h x (by simp [Op.operands])⟩
theorem step_assign (x : Operand) {v : AV} (hx : ρ x = v) : StepK P .p ⟨dst, .assign x, ty0, pos, af, g⟩ ρ H H v :=
  stepP_val fun H E c w a _ h => ⟨a.eval x, rfl, hx ▸ h x (by simp [Op.operands])⟩
/-- what is known to the last cell -/
def exC : CV → Option Value
  | .t (.v x) => some x
  | _ => none
def exL : List CV → Option (List Value)
  | [] => some []
  | x :: t => match exC x, exL t with | some v, some l => some (v :: l) | _, _ => none
def exAV : AV → Option Value
  | .c x => exC x
  | .agg l => (exL l).map fun l => .agg l.toArray
  | _ => none
theorem exC_eq {c : Cx} {H : AHeap} {w : World} {v y : Value} {x : CV} (h : CRep c H w v x) (he : exC x = some y) : v = y := by
  cases h with
  | t h => cases h with
    | v x _ => simp only [exC, Option.some.injEq] at he; exact he
    | _ => simp [exC] at he
  | _ => simp [exC] at he
theorem exL_eq {c : Cx} {H : AHeap} {w : World} : ∀ (l : List CV) (cs ys : List Value), cs.length = l.length → (∀ i, i < l.length → CRep c H w (cs.getD i undef) (l.getD i .dead)) → exL l = some ys → cs = ys := by
  intro l
  induction l with
  | nil => intro cs ys h1 _ h; simp [exL] at h; rw [h]; exact List.length_eq_zero_iff.1 h1
  | cons x t ih =>
    intro cs ys h1 h2 h
    cases cs with
    | nil => simp at h1
    | cons u cs =>
      unfold exL at h
      cases hx : exC x with
      | none => rw [hx] at h; cases h
      | some v =>
        cases hl : exL t with
        | none => rw [hx, hl] at h; cases h
        | some l =>
          rw [hx, hl] at h
          simp at h
          rw [← h]
          have h0 := h2 0 (by simp)
          have e0 : u = v := exC_eq (c := c) (H := H) (w := w) (x := x) (by simpa using h0) hx
          rw [e0, ih cs l (by simpa using h1) (fun i hi => by have := h2 (i + 1) (by simpa using hi); simpa using this) hl]
theorem exAV_eq {c : Cx} {H : AHeap} {w : World} {v y : Value} {x : AV} (h : VRep c H w v x) (he : exAV x = some y) : v = y := by
  cases h with
  | c h => exact exC_eq h he
  | agg cs l h1 h2 =>
    simp only [exAV] at he
    cases hl : exL l with
    | none => rw [hl] at he; cases he
    | some ys =>
      rw [hl] at he
      injection he with he
      have e := exL_eq l cs ys h1 h2 hl
      subst e
      exact he
  | _ => simp [exAV] at he
/-- an operation on what is known to the last cell -/
theorem step_exact {o : Oper} (hs : ∀ cs b, o.op ≠ .select cs b) (y : Value) (hx : ∀ x ∈ o.op.operands, (exAV (ρ x)).isSome = true) (hrun : ∀ w, (execOp (fun x => (exAV (ρ x)).getD undef) o).run P w = .ok (.value y) w) : StepK P .p o ρ H H (constAV y) :=
  stepP_val fun H E c w a _ h => ⟨y, by
    rw [execOp_congr (ρ := a.eval) (ρ' := fun x => (exAV (ρ x)).getD undef) o hs (fun x hm => by
      obtain ⟨z, hz⟩ := Option.isSome_iff_exists.1 (hx x hm)
      simp only [hz, Option.getD_some]
      exact exAV_eq (h x hm) hz)]
    exact hrun w, constAV_rep c H w y⟩
theorem add_plain (b i n : Nat) : (⟨b, i, none⟩ : Addr).add n = ⟨b, i + n, none⟩ := by unfold Addr.add; split <;> simp_all
theorem run_fieldAt {sty : TypeId} {f off n : Nat} {agg : Bool} (hf : fldB P sty f off n agg = true) (w : World) (b i : Nat) : (Instr.fieldAt sty (.pointer (some ⟨b, i, none⟩)) f).run P w = .ok (.pointer (some ⟨b, i + off, none⟩)) w := by
  unfold fldB at hf
  split at hf
  · rename_i fs hu
    split at hf
    · rename_i d hd
      simp only [Bool.and_eq_true, beq_iff_eq, decide_eq_true_eq] at hf
      obtain ⟨⟨h1, h2⟩, h3⟩ := hf
      have hn : n ≠ 0 := by omega
      simp [Instr.fieldAt, run_underlying hu, hd, Instr.sureAddr, fieldPlace, Shp.size h2, hn, h1, add_plain]
    · cases hf
  · cases hf
theorem cptr {c : Cx} {H : AHeap} {w : World} {v : Value} {k i : Nat} (h : VRep c H w v (.c (.ptr k i))) : ∃ b ty cells, v = .pointer (some ⟨b, i, none⟩) ∧ hget H k = some (.var ty cells) ∧ c.m k = .pointer (some ⟨b, 0, none⟩) := by
  cases h with
  | c h => cases h with
    | ptr ho hm => exact ⟨_, _, _, rfl, ho, hm⟩
theorem step_field_ptr (sty : TypeId) (x : Operand) (f : Nat) {off n : Nat} {agg : Bool} [hF : Fld P sty f off n agg] {k i : Nat} (hx : ρ x = .c (.ptr k i)) : StepK P .p ⟨dst, .fieldAddr sty x f, ty0, pos, af, g⟩ ρ H H (.c (.ptr k (i + off))) :=
  stepP_val fun H E c w a _ h => by
    have hv := h x (by simp [Op.operands])
    rw [hx] at hv
    obtain ⟨b, ty, cells, e, ho, hm⟩ := cptr hv
    refine ⟨_, ?_, .c (.ptr ho hm)⟩
    simp only [execOp, e, Sem.run_bind, run_fieldAt hF.h, Result.andThen_ok, Sem.run_pure]
theorem cel {c : Cx} {H : AHeap} {w : World} {v : Value} {row : List T} {j : Nat} (h : VRep c H w v (.c (.el row j))) : ∃ b off, ∃ vs : Nat → Value, v = .pointer (some ⟨b, off + j, none⟩) ∧ (∀ j, j < row.length → c.A b (off + j) ∧ w.cell? ⟨b, off + j, none⟩ = some (vs j)) ∧ ∀ j, j < row.length → TRep c.A w (vs j) (row.getD j default) := by
  cases h with
  | c h => cases h with
    | el vs hc hr => exact ⟨_, _, vs, rfl, hc, hr⟩
theorem step_field_el (sty : TypeId) (x : Operand) (f : Nat) {off n : Nat} {agg : Bool} [hF : Fld P sty f off n agg] {row : List T} {j : Nat} (hx : ρ x = .c (.el row j)) : StepK P .p ⟨dst, .fieldAddr sty x f, ty0, pos, af, g⟩ ρ H H (.c (.el row (j + off))) :=
  stepP_val fun H E c w a _ h => by
    have hv := h x (by simp [Op.operands])
    rw [hx] at hv
    obtain ⟨b, o, vs, e, hc, hr⟩ := cel hv
    refine ⟨_, ?_, .c (.el (off := o) vs hc hr)⟩
    simp only [execOp, e, Sem.run_bind, run_fieldAt hF.h, Result.andThen_ok, Sem.run_pure, Nat.add_assoc]
theorem cp {c : Cx} {H : AHeap} {w : World} {v : Value} {row : List T} (h : VRep c H w v (.c (.t (.p row)))) : ∃ b off, ∃ vs : Nat → Value, v = .pointer (some ⟨b, off, none⟩) ∧ (∀ j, j < row.length → c.A b (off + j) ∧ w.cell? ⟨b, off + j, none⟩ = some (vs j)) ∧ ∀ j, j < row.length → TRep c.A w (vs j) (row.getD j default) := by
  cases h with
  | c h => cases h with
    | t h => cases h with
      | p b off row vs hc hr => exact ⟨_, _, vs, rfl, hc, hr⟩
theorem step_field_p (sty : TypeId) (x : Operand) (f : Nat) {off n : Nat} {agg : Bool} [hF : Fld P sty f off n agg] {row : List T} (hx : ρ x = .c (.t (.p row))) : StepK P .p ⟨dst, .fieldAddr sty x f, ty0, pos, af, g⟩ ρ H H (.c (.el row off)) :=
  stepP_val fun H E c w a _ h => by
    have hv := h x (by simp [Op.operands])
    rw [hx] at hv
    obtain ⟨b, o, vs, e, hc, hr⟩ := cp hv
    refine ⟨_, ?_, .c (.el (off := o) vs hc hr)⟩
    simp only [execOp, e, Sem.run_bind, run_fieldAt hF.h, Result.andThen_ok, Sem.run_pure]
/-- an element's address: of a slice that nobody changes -/
theorem step_index_t (sty : TypeId) (x ix : Operand) {e : TypeId} {n bytes : Nat} [hS : Sli P sty e n bytes] {rows : List (List T)} {kd : IntKind} {i : Int} (hx : ρ x = .c (.t (.s rows))) (hi : ρ ix = .c (.t (.v (.int kd i)))) (h0 : 0 ≤ i) (h1 : i < rows.length) (hn : (rows.getD i.toNat []).length = n) :
    StepK P .p ⟨dst, .indexAddr sty x ix, ty0, pos, af, g⟩ ρ H H (.c (.el (rows.getD i.toNat []) 0)) :=
  stepP_val fun H E c w a _ h => by
    have hv := h x (by simp [Op.operands])
    have hw := h ix (by simp [Op.operands])
    rw [hx] at hv
    rw [hi] at hw
    have ew := exAV_eq hw (y := .int kd i) rfl
    have hb := hS.h
    unfold sliB at hb
    cases hu : P.underlying sty with
    | none => rw [hu] at hb; simp at hb
    | some d =>
      rw [hu] at hb
      cases d <;> simp at hb
      rename_i e'
      obtain ⟨⟨rfl, hb2⟩, hb3⟩ := hb
      cases hinf : P.info? e' with
      | none => rw [hinf] at hb2; cases hb2
      | some inf =>
        rw [hinf] at hb2
        simp at hb2
        have hsz : inf.size = n := hb2.1.1
        generalize hval : a.eval x = val at hv
        cases hv with
        | c hv => cases hv with
          | t hv =>
            cases hv with
            | e _ _ => simp at h1; omega
            | s b off cap n' rows vs g1 g2 gn gc gr =>
              have hlt : i.toNat < rows.length := by omega
              have hnn : n' = n := by rw [← gn _ hlt]; exact hn
              subst hnn
              refine ⟨.pointer (some ⟨b, off + i.toNat * n', none⟩), ?_, .c ?_⟩
              · simp only [execOp, hval, ew]
                simp [Instr.indexAt, asIntOf, run_underlying hu, h0, h1, Go.sizeOf, typeInfo, hinf, hsz, add_plain]
              · have := CRep.el (c := c) (H := H) (w := w) (row := rows.getD i.toNat []) (j := 0) (b := b) (off := off + i.toNat * n') (vs i.toNat)
                  (fun j hj => gc _ j hlt (by rw [gn _ hlt] at hj; exact hj)) (fun j hj => gr _ j hlt (by rw [gn _ hlt] at hj; exact hj))
                simpa using this
theorem step_index_arr_el (sty : TypeId) (x ix : Operand) {len n : Nat} (hA : ∃ e, P.underlying sty = some (.array len e) ∧ ∃ i, P.info? e = some i ∧ i.size = n) {row : List T} {j : Nat} {kd : IntKind} {i : Int} (hx : ρ x = .c (.el row j)) (hi : ρ ix = .c (.t (.v (.int kd i)))) (h0 : 0 ≤ i) (h1 : i < len) :
    StepK P .p ⟨dst, .indexAddr sty x ix, ty0, pos, af, g⟩ ρ H H (.c (.el row (j + i.toNat * n))) :=
  stepP_val fun H E c w a _ h => by
    obtain ⟨e, hu, inf, hinf, hsz⟩ := hA
    have hv := h x (by simp [Op.operands])
    have hw := h ix (by simp [Op.operands])
    rw [hx] at hv
    rw [hi] at hw
    have ew := exAV_eq hw (y := .int kd i) rfl
    obtain ⟨b, o, vs, ev', hc, hr⟩ := cel hv
    refine ⟨.pointer (some ⟨b, o + j + i.toNat * n, none⟩), ?_, .c ?_⟩
    · simp only [execOp, ev', ew]
      simp [Instr.indexAt, asIntOf, run_underlying hu, Instr.sureAddr, h0, h1, Go.sizeOf, typeInfo, hinf, hsz, add_plain]
    · have := CRep.el (c := c) (H := H) (w := w) (row := row) (j := j + i.toNat * n) (b := b) (off := o) vs hc hr
      rw [Nat.add_assoc]; exact this
theorem step_index_arr_ptr (sty : TypeId) (x ix : Operand) {len n : Nat} (hA : ∃ e, P.underlying sty = some (.array len e) ∧ ∃ i, P.info? e = some i ∧ i.size = n) {k j : Nat} {kd : IntKind} {i : Int} (hx : ρ x = .c (.ptr k j)) (hi : ρ ix = .c (.t (.v (.int kd i)))) (h0 : 0 ≤ i) (h1 : i < len) :
    StepK P .p ⟨dst, .indexAddr sty x ix, ty0, pos, af, g⟩ ρ H H (.c (.ptr k (j + i.toNat * n))) :=
  stepP_val fun H E c w a _ h => by
    obtain ⟨e, hu, inf, hinf, hsz⟩ := hA
    have hv := h x (by simp [Op.operands])
    have hw := h ix (by simp [Op.operands])
    rw [hx] at hv
    rw [hi] at hw
    have ew := exAV_eq hw (y := .int kd i) rfl
    obtain ⟨b, ty, cells, ev', ho, hm⟩ := cptr hv
    refine ⟨.pointer (some ⟨b, j + i.toNat * n, none⟩), ?_, .c (.ptr ho hm)⟩
    simp only [execOp, ev', ew]
    simp [Instr.indexAt, asIntOf, run_underlying hu, Instr.sureAddr, h0, h1, Go.sizeOf, typeInfo, hinf, hsz, add_plain]
theorem step_len_t (sty : TypeId) (x : Operand) {e : TypeId} {n bytes : Nat} [hS : Sli P sty e n bytes] {rows : List (List T)} (hx : ρ x = .c (.t (.s rows))) :
    StepK P .p ⟨dst, .call { callee := .builtin .len, args := #[x], argTypes := #[sty] }, ty0, pos, af, g⟩ ρ H H (.c (.t (.v (.int .i64 rows.length)))) :=
  stepP_val fun H E c w a _ h => by
    have hv := h x (by simp [Op.operands, Call.operands])
    rw [hx] at hv
    have hb := hS.h
    unfold sliB at hb
    cases hu : P.underlying sty with
    | none => rw [hu] at hb; simp at hb
    | some d =>
      rw [hu] at hb
      cases d <;> simp at hb
      generalize hval : a.eval x = val at hv
      cases hv with
      | c hv => cases hv with
        | t hv =>
          cases hv with
          | e ad cap => exact ⟨.int .i64 0, by simp [execOp, resolve, invoke, builtin, Builtin.len_, run_underlying hu, hval, goInt], .c (.t (.v _ rfl))⟩
          | s b off cap n' rows vs g1 g2 gn gc gr => exact ⟨.int .i64 rows.length, by simp [execOp, resolve, invoke, builtin, Builtin.len_, run_underlying hu, hval, goInt], .c (.t (.v _ rfl))⟩
/-- how a value of a type is taken out of cells -/
def takeAV (agg : Bool) (n : Nat) (l : List CV) (i : Nat) : AV := if agg then .agg ((l.drop i).take n) else .c (l.getD i .dead)
theorem run_loadVar_cells {ty : TypeId} {agg : Bool} {n : Nat} (hs : shapeB P ty agg n = true) (hn : agg = false → n = 1) (w : World) (b i : Nat) (cs : List Value) (hl : cs.length = n) (hc : ∀ j, j < n → w.cell? ⟨b, i + j, none⟩ = some (cs.getD j undef)) :
    (loadVar ty ⟨b, i, none⟩).run P w = .ok (if agg then .agg cs.toArray else cs.getD 0 undef) w := by
  unfold loadVar
  simp only [Sem.run_bind, Shp.isAgg hs, Result.andThen_ok]
  cases agg with
  | true =>
    simp only [if_true, Sem.run_bind, Shp.size hs, Result.andThen_ok]
    rw [← hl, run_loadCells_list w _ cs (fun j v hv => by
      have hj : j < cs.length := by
        rcases Nat.lt_or_ge j cs.length with h | h
        · exact h
        · rw [List.getElem?_eq_none h] at hv; cases hv
      rw [add_plain, hc j (by omega), List.getD_eq_getElem?_getD, hv]; rfl)]
    simp
  | false =>
    have h1 := hn rfl
    subst h1
    have h0 := hc 0 (by omega)
    simp at h0
    simp [load, Sem.run, h0]
theorem take_rep {c : Cx} {H : AHeap} {w : World} {l : List CV} {agg : Bool} {n i : Nat} {cs : List Value} (hl : cs.length = n) (hn : agg = false → n = 1) (hi : i + n ≤ l.length) (h : ∀ j, j < n → CRep c H w (cs.getD j undef) (l.getD (i + j) .dead)) :
    VRep c H w (if agg then .agg cs.toArray else cs.getD 0 undef) (takeAV agg n l i) := by
  unfold takeAV
  cases agg with
  | true =>
    simp only [if_true]
    refine .agg _ _ (by simp; omega) (fun j hj => ?_)
    have hj' : j < n := by simp at hj; omega
    have e : ((l.drop i).take n).getD j .dead = l.getD (i + j) .dead := by
      simp [List.getD_eq_getElem?_getD, List.getElem?_take, hj', List.getElem?_drop]
    rw [e]
    exact h j hj'
  | false =>
    have h1 := hn rfl
    subst h1
    have := h 0 (by omega)
    exact .c (by simpa using this)
/-- what a variable holds -/
theorem step_load_ptr (ty : TypeId) (x : Operand) {agg : Bool} {n : Nat} [hS : Shp P ty agg n] {k i : Nat} {vt : TypeId} {cells : List CV} (hx : ρ x = .c (.ptr k i)) (ho : hget H k = some (.var vt cells)) (hn : agg = false → n = 1) (hi : i + n ≤ cells.length) :
    StepK P .r ⟨dst, .load ty x, ty0, pos, af, g⟩ ρ H H (takeAV agg n cells i) :=
  ⟨rfl, fun H2 hsub => step_val (H := H2) fun E c w a hC h => by
    have ho := hsub _ _ ho
    have hv := h x (by simp [Op.operands])
    rw [hx] at hv
    obtain ⟨b, ty', cells', e, ho', hm⟩ := cptr hv
    obtain ⟨b', cs, g1, g2, g3, g4, g5⟩ := hC.obj k _ ho
    have hbb : b' = b := by rw [hm] at g1; injection g1 with g1; injection g1 with g1; injection g1 with g1; exact g1.symm
    subst hbb
    have hcell : ∀ j, j < n → w.cell? ⟨b', i + j, none⟩ = some (((List.range n).map fun j => cs.getD (i + j) undef).getD j undef) := fun j hj => by
      have hlt : i + j < cs.size := by omega
      simp [World.cell?, g2, hlt, List.getD_eq_getElem?_getD, List.getElem?_map, List.getElem?_range hj]
    have hrun := run_loadVar_cells hS.h hn w b' i ((List.range n).map fun j => cs.getD (i + j) undef) (by simp) hcell
    refine ⟨_, ?_, take_rep (l := cells) (i := i) (cs := (List.range n).map fun j => cs.getD (i + j) undef) (by simp) hn hi (fun j hj => ?_)⟩
    · simp only [execOp, e, Instr.loadAt, Instr.sureAddr, Sem.run_bind, Sem.run_pure, Result.andThen_ok, hrun]
    · have := g4 (i + j) (by omega)
      simpa [List.getD_eq_getElem?_getD, List.getElem?_map, List.getElem?_range hj] using this⟩
theorem step_load_el (ty : TypeId) (x : Operand) {agg : Bool} {n : Nat} [hS : Shp P ty agg n] {row : List T} {i : Nat} (hx : ρ x = .c (.el row i)) (hn : agg = false → n = 1) (hi : i + n ≤ row.length) :
    StepK P .p ⟨dst, .load ty x, ty0, pos, af, g⟩ ρ H H (takeAV agg n (row.map .t) i) :=
  stepP_val fun H E c w a hC h => by
    have hv := h x (by simp [Op.operands])
    rw [hx] at hv
    obtain ⟨b, off, vs, e, hc, hr⟩ := cel hv
    have hcell : ∀ j, j < n → w.cell? ⟨b, off + i + j, none⟩ = some (((List.range n).map fun j => vs (i + j)).getD j undef) := fun j hj => by
      have := (hc (i + j) (by omega)).2
      rw [Nat.add_assoc, this]
      simp [List.getD_eq_getElem?_getD, List.getElem?_map, List.getElem?_range hj]
    have hrun := run_loadVar_cells hS.h hn w b (off + i) ((List.range n).map fun j => vs (i + j)) (by simp) hcell
    refine ⟨_, ?_, take_rep (l := row.map .t) (i := i) (cs := (List.range n).map fun j => vs (i + j)) (by simp) hn (by simpa using hi) (fun j hj => ?_)⟩
    · simp only [execOp, e, Instr.loadAt, Instr.sureAddr, Sem.run_bind, Sem.run_pure, Result.andThen_ok, hrun]
    · have h1 := hr (i + j) (by omega)
      have hlt : i + j < row.length := by omega
      have e1 : (row.map CV.t).getD (i + j) .dead = .t (row.getD (i + j) default) := by
        simp [List.getD_eq_getElem?_getD, List.getElem?_map, List.getElem?_eq_getElem hlt]
      rw [e1]
      have e2 : ((List.range n).map fun j => vs (i + j)).getD j undef = vs (i + j) := by simp [List.getD_eq_getElem?_getD, List.getElem?_map, List.getElem?_range hj]
      rw [e2]
      exact .t h1
theorem step_load_p (ty : TypeId) (x : Operand) {agg : Bool} {n : Nat} [hS : Shp P ty agg n] {row : List T} (hx : ρ x = .c (.t (.p row))) (hn : agg = false → n = 1) (hi : n ≤ row.length) :
    StepK P .p ⟨dst, .load ty x, ty0, pos, af, g⟩ ρ H H (takeAV agg n (row.map .t) 0) :=
  ⟨rfl, fun H2 E c a w K Q hC h hK => by
    refine (step_load_el (P := P) (dst := dst) (ty0 := ty0) (pos := pos) (af := af) (g := g) (ρ := fun _ => .c (.el row 0)) (H := H2) ty x (row := row) rfl hn (by omega)).2 H2 E c a w K Q hC (fun y hy => ?_) hK
    have hv := h x (by simp [Op.operands])
    have hy' : y = x := by simpa [Op.operands] using hy
    subst hy'
    rw [hx] at hv
    obtain ⟨b, o, vs, e, hc, hr⟩ := cp hv
    rw [e]
    exact .c (.el (off := o) (j := 0) vs hc hr)⟩
theorem step_nil_ptr (x : Operand) {k i : Nat} (hx : ρ x = .c (.ptr k i)) : StepK P .p ⟨dst, .nilCheck x, ty0, pos, af, g⟩ ρ H H (.c (.ptr k i)) :=
  stepP_val fun H E c w a _ h => by
    have hv := h x (by simp [Op.operands])
    rw [hx] at hv
    obtain ⟨b, ty, cells, e, ho, hm⟩ := cptr hv
    exact ⟨a.eval x, by simp [execOp, e], hv⟩
theorem step_nil_p (x : Operand) {row : List T} (hx : ρ x = .c (.t (.p row))) : StepK P .p ⟨dst, .nilCheck x, ty0, pos, af, g⟩ ρ H H (.c (.t (.p row))) :=
  stepP_val fun H E c w a _ h => by
    have hv := h x (by simp [Op.operands])
    rw [hx] at hv
    obtain ⟨b, o, vs, e, hc, hr⟩ := cp hv
    exact ⟨a.eval x, by simp [execOp, e], hv⟩
theorem step_nil_el (x : Operand) {row : List T} {j : Nat} (hx : ρ x = .c (.el row j)) : StepK P .p ⟨dst, .nilCheck x, ty0, pos, af, g⟩ ρ H H (.c (.el row j)) :=
  stepP_val fun H E c w a _ h => by
    have hv := h x (by simp [Op.operands])
    rw [hx] at hv
    obtain ⟨b, o, vs, e, hc, hr⟩ := cel hv
    exact ⟨a.eval x, by simp [execOp, e], hv⟩
theorem step_extract (x : Operand) (i : Nat) {l : List AV} (hx : ρ x = .tup l) (hi : i < l.length) : StepK P .p ⟨dst, .extract x i, ty0, pos, af, g⟩ ρ H H (l.getD i .dead) :=
  stepP_val fun H E c w a _ h => by
    have hv := h x (by simp [Op.operands])
    rw [hx] at hv
    generalize hval : a.eval x = val at hv
    cases hv with
    | tup vs l hl hr =>
      refine ⟨vs.getD i undef, ?_, hr i hi⟩
      have hlt : i < vs.length := by omega
      simp [execOp, hval, Instr.extract, hlt]
theorem step_pick (x y z : Operand) {b : Bool} {v : AV} (hx : ρ x = .c (.t (.v (.bool b)))) (hv : (if b then ρ y else ρ z) = v) : StepK P .p ⟨dst, .pick x y z, ty0, pos, af, g⟩ ρ H H v :=
  stepP_val fun H E c w a _ h => by
    have hb := h x (by simp [Op.operands])
    rw [hx] at hb
    have e := exAV_eq hb (y := .bool b) rfl
    refine ⟨if b then a.eval y else a.eval z, by simp [execOp, e, asBool], ?_⟩
    rw [← hv]
    cases b
    · exact h z (by simp [Op.operands])
    · exact h y (by simp [Op.operands])
end
end Go.Proofs.YtoebfmhogkjmgaaGreatDoor.Fx
