/- Slices: literals, made ones, appends, elements. No program in sight. -/
import Derived.Test.YtoebfmhogkjmgaaGreatDoorFxF
namespace Go.Proofs.YtoebfmhogkjmgaaGreatDoor.Fx
open Go.RowKit
set_option linter.unusedVariables false
set_option linter.unusedSimpArgs false
section
variable {P : Program} {dst : Option Tmp} {ty0 : TypeId} {pos : String} {af : Array Edge} {g : Option (Nat × Bool)} {ρ : Operand → AV} {H : AHeap}
structure SliF (P : Program) (ty e : TypeId) (n bytes : Nat) : Prop where
  u : P.underlying ty = some (.slice e)
  i : ∃ inf z, P.info? e = some inf ∧ inf.zero = some z ∧ inf.size = n ∧ inf.bytes = bytes ∧ z.cells.size = n
  pos : 0 < n
theorem sli_facts {ty e : TypeId} {n bytes : Nat} (hb : sliB P ty e n bytes = true) : SliF P ty e n bytes := by
  unfold sliB at hb
  cases hu : P.underlying ty with
  | none => rw [hu] at hb; simp at hb
  | some d =>
    rw [hu] at hb
    cases d <;> simp at hb
    rename_i e'
    obtain ⟨⟨rfl, hb2⟩, hb3⟩ := hb
    cases hinf : P.info? e' with
    | none => rw [hinf] at hb2; cases hb2
    | some inf =>
      rw [hinf] at hb2
      simp at hb2
      obtain ⟨⟨h1, h2⟩, h3⟩ := hb2
      cases hz : inf.zero with
      | none => rw [hz] at h3; cases h3
      | some z =>
        rw [hz] at h3
        exact ⟨hu, ⟨inf, z, hinf, hz, h1, h2, by simpa using h3⟩, hb3⟩
/-- trees alone -/
def treeC : CV → Option T
  | .t (.v (.slice none 0 0)) => some (.s [])
  | .t x => some x
  | .z => some (.s [])
  | _ => none
theorem treeC_coe {x : CV} {y : T} (h : treeC x = some y) : CoeC x (.t y) := by
  unfold treeC at h
  split at h
  · injection h with h; subst h; exact CoeC.nil
  · injection h with h; subst h; exact CoeC.refl _
  · injection h with h; subst h; exact CoeC.z
  · cases h
def treeL : List CV → Option (List T)
  | [] => some []
  | x :: t => match treeC x, treeL t with | some y, some l => some (y :: l) | _, _ => none
def treesAV (x : AV) : Option (List T) :=
  match cellsAV x with
  | some l => treeL l
  | none => none
def rowsOf : Nat → List (Nat × AV) → Option (List (List T))
  | _, [] => some []
  | k, (i, x) :: t => if i = k then (match treesAV x, rowsOf (k + 1) t with | some r, some l => some (r :: l) | _, _ => none) else none
theorem treeL_get : ∀ (l : List CV) (r : List T), treeL l = some r → l.length = r.length ∧ ∀ i, i < r.length → CoeC (l.getD i .dead) (.t (r.getD i default)) := by
  intro l
  induction l with
  | nil => intro r h; injection h with h; subst h; exact ⟨rfl, fun i hi => absurd hi (Nat.not_lt_zero _)⟩
  | cons x t ih =>
    intro r h
    unfold treeL at h
    cases hx : treeC x with
    | none => rw [hx] at h; cases h
    | some y =>
      cases ht : treeL t with
      | none => rw [hx, ht] at h; cases h
      | some l =>
        rw [hx, ht] at h
        injection h with h; subst h
        obtain ⟨h1, h2⟩ := ih l ht
        refine ⟨by simp [h1], fun i hi => ?_⟩
        cases i with
        | zero => simpa using treeC_coe hx
        | succ i => simpa using h2 i (by simpa using hi)
theorem crep_t {c : Cx} {H : AHeap} {w : World} {v : Value} {x : T} (h : CRep c H w v (.t x)) : TRep c.A w v x := by cases h; assumption
theorem trees_rep {c : Cx} {H : AHeap} {w : World} {v : Value} {x : AV} {r : List T} (h : VRep c H w v x) (hr : treesAV x = some r) : v.cells.size = r.length ∧ ∀ i, i < r.length → TRep c.A w (v.cells.toList.getD i undef) (r.getD i default) := by
  unfold treesAV at hr
  cases hc : cellsAV x with
  | none => rw [hc] at hr; cases hr
  | some l =>
    rw [hc] at hr
    simp only at hr
    obtain ⟨h1, h2⟩ := treeL_get l r hr
    obtain ⟨g1, g2⟩ := cells_rep h hc
    refine ⟨g1.trans h1, fun i hi => ?_⟩
    exact crep_t (h2 i hi _ _ _ _ (g2 i (by omega)))
/-- the cells of a literal's parts, filled in -/
theorem fill_rows {c : Cx} {w : World} {n : Nat} (hn : 0 < n) : ∀ (parts : List (Nat × Value)) (ps : List (Nat × AV)) (k : Nat) (cells : Array Value) (rows : List (List T)), parts.length = ps.length →
    (∀ i, i < ps.length → (parts.getD i (0, undef)).1 = (ps.getD i (0, .dead)).1 ∧ VRep c H w (parts.getD i (0, undef)).2 (ps.getD i (0, .dead)).2) → rowsOf k ps = some rows → (∀ i, i < rows.length → (rows.getD i []).length = n) → cells.size = (k + rows.length) * n →
    ∃ cells', Instr.fill (fun i => some (i * n, n)) cells parts = some cells' ∧ cells'.size = cells.size ∧ (∀ i, i < k * n → cells'.toList.getD i undef = cells.toList.getD i undef) ∧ ∀ i j, i < rows.length → j < n → TRep c.A w (cells'.toList.getD ((k + i) * n + j) undef) ((rows.getD i []).getD j default) := by
  intro parts
  induction parts with
  | nil =>
    intro ps k cells rows h1 _ h3 _ h5
    have : ps = [] := List.length_eq_zero_iff.1 (by simpa using h1.symm)
    subst this
    injection h3 with h3; subst h3
    exact ⟨cells, rfl, rfl, fun _ _ => rfl, fun i j hi => absurd hi (Nat.not_lt_zero _)⟩
  | cons p t ih =>
    intro ps k cells rows h1 h2 h3 h4 h5
    cases ps with
    | nil => simp at h1
    | cons q u =>
      obtain ⟨i, v⟩ := p
      obtain ⟨i', x⟩ := q
      obtain ⟨e1, e2⟩ := h2 0 (by simp)
      simp at e1 e2
      subst e1
      unfold rowsOf at h3
      split at h3
      · rename_i hik
        subst hik
        cases hr : treesAV x with
        | none => rw [hr] at h3; cases h3
        | some r =>
          cases hl : rowsOf (i + 1) u with
          | none => rw [hr, hl] at h3; cases h3
          | some l =>
            rw [hr, hl] at h3
            injection h3 with h3; subst h3
            obtain ⟨g1, g2⟩ := trees_rep e2 hr
            have hrn : r.length = n := by have := h4 0 (by simp); simpa using this
            have hsz5 : cells.size = (i + 1 + l.length) * n := by rw [h5]; simp; congr 1; omega
            have hbound : i * n + n ≤ cells.size := by
              rw [hsz5, Nat.add_mul, Nat.add_mul, Nat.one_mul]; omega
            unfold Instr.fill
            simp only
            have hsz : ¬ ((decide (v.cells.size ≠ n) || decide (i * n + v.cells.size > cells.size)) = true) := by
              simp only [Bool.or_eq_true, decide_eq_true_eq]
              rw [g1, hrn]; omega
            rw [if_neg hsz]
            have hvl : v.cells.toList.length = n := by simp [g1, hrn]
            have hfold : v.cells.zipIdx.foldl (fun cs (x : Value × Nat) => cs.setIfInBounds (i * n + x.2) x.1) cells = (splice cells.toList (i * n) v.cells.toList).toArray := by
              rw [← Array.foldl_toList, Array.toList_zipIdx]
              apply Array.ext'
              rw [zip_fold (i * n) v.cells.toList 0 cells (by rw [hvl]; omega)]; simp
            have hspl : i * n + v.cells.toList.length ≤ cells.toList.length := by rw [hvl]; simpa using hbound
            obtain ⟨cells', f1, f2, f3, f4⟩ := ih u (i + 1) (splice cells.toList (i * n) v.cells.toList).toArray l (by simpa using h1) (fun j hj => by have := h2 (j + 1) (by simpa using hj); simpa using this) hl (fun j hj => by have := h4 (j + 1) (by simpa using hj); simpa using this) (by
              simp only [List.size_toArray]
              rw [splice_length _ _ _ hspl]; simpa using hsz5)
            refine ⟨cells', by rw [hfold]; exact f1, ?_, fun j hj => ?_, fun j q hj hq => ?_⟩
            · rw [f2]; simp only [List.size_toArray]; rw [splice_length _ _ _ hspl]; simp
            · rw [f3 j (by rw [Nat.add_mul]; omega)]
              simp only
              rw [splice_getD _ _ _ hspl, if_neg (by omega)]
            · cases j with
              | zero =>
                rw [Nat.add_zero, f3 _ (by rw [Nat.add_mul, Nat.one_mul]; omega)]
                simp only
                rw [splice_getD _ _ _ hspl, if_pos (by rw [hvl]; omega)]
                have e : i * n + q - i * n = q := by omega
                rw [e]
                simpa using g2 q (by omega)
              | succ j =>
                have := f4 j q (by simpa using hj) hq
                rw [show i + (j + 1) = i + 1 + j by omega]
                simpa using this
      · cases h3
theorem lit_run {E : Ent} {c : Cx} {w : World} {a : Act} (ty : TypeId) (len : Nat) (parts : List (Nat × Operand)) {e : TypeId} {n bytes : Nat} (hS : SliF P ty e n bytes) {rows : List (List T)} (hr : rowsOf 0 (parts.map fun p => (p.1, ρ p.2)) = some rows) (hl : rows.length = len) (hn : ∀ i, i < rows.length → (rows.getD i []).length = n) (hmax : len * n ≤ 16777216)
    (h : ∀ x ∈ (Op.buildSlice ty len parts.toArray).operands, VRep c H w (a.eval x) (ρ x)) :
    ∃ cs : List Value, cs.length = len * n ∧ (∀ i j, i < rows.length → j < n → TRep c.A w (cs.getD (i * n + j) undef) ((rows.getD i []).getD j default)) ∧
      (execOp a.eval ⟨dst, .buildSlice ty len parts.toArray, ty0, pos, af, g⟩).run P w = .ok (.value (.slice (some ⟨w.heap.size, 0, none⟩) len len)) (w.alloc (.cells cs.toArray e)) := by
  obtain ⟨inf, z, hinf, hz, hsz, hby, hzs⟩ := hS.i
  subst hl
  have hpn := hS.pos
  have hparts : ∀ i, i < (parts.map fun p => (p.1, ρ p.2)).length → ((parts.map fun p => (p.1, a.eval p.2)).getD i (0, undef)).1 = ((parts.map fun p => (p.1, ρ p.2)).getD i (0, .dead)).1 ∧ VRep c H w ((parts.map fun p => (p.1, a.eval p.2)).getD i (0, undef)).2 ((parts.map fun p => (p.1, ρ p.2)).getD i (0, .dead)).2 := fun i hi => by
    have hi' : i < parts.length := by simpa using hi
    simp only [List.getD_eq_getElem?_getD, List.getElem?_map, List.getElem?_eq_getElem hi', Option.map_some, Option.getD_some]
    exact ⟨trivial, h _ (by simp [Op.operands]; exact ⟨_, List.getElem_mem hi'⟩)⟩
  by_cases h0 : rows.length * n = 0
  · have hr0 : rows.length = 0 := by
      rcases Nat.mul_eq_zero.1 h0 with e | e
      · exact e
      · omega
    obtain ⟨cells', f1, f2, _, f4⟩ := fill_rows (c := c) (w := w) (H := H) hpn (parts.map fun p => (p.1, a.eval p.2)) _ 0 #[] rows (by simp) hparts hr hn (by rw [Nat.zero_add, h0]; rfl)
    have hc : cells' = #[] := by apply Array.ext' ; simpa using f2
    subst hc
    refine ⟨[], by simp [hr0], fun i j hi => by omega, ?_⟩
    have hm : (parts.toArray.map fun (i, x) => (i, a.eval x)).toList = parts.map fun p => (p.1, a.eval p.2) := by simp
    have hnot : ¬ (rows.length * n > 2 ^ 24) := by omega
    have hsize : (sizeOf e).run P w = .ok n w := by simp [Go.sizeOf, typeInfo, hinf, hsz]
    have hz0 : ∀ f : Nat → Value, (Array.range (rows.length * n)).map f = #[] := fun f => by rw [h0]; apply Array.ext'; simp
    simp only [execOp, Instr.buildSlice, Sem.run_bind, run_underlying hS.u, Result.andThen_ok, hsize, if_neg hnot, if_pos h0, Sem.run_pure, hm, hz0, f1]
    simp [newRow, newObj, Sem.run, hr0]
  · obtain ⟨cells', f1, f2, _, f4⟩ := fill_rows (c := c) (w := w) (H := H) hpn (parts.map fun p => (p.1, a.eval p.2)) _ 0 ((Array.range (rows.length * n)).map (z.cells[· % z.cells.size]!)) rows (by simp) hparts hr hn (by simp)
    refine ⟨cells'.toList, by simp [f2], fun i j hi hj => by have := f4 i j hi hj; simpa using this, ?_⟩
    have hm : (parts.toArray.map fun (i, x) => (i, a.eval x)).toList = parts.map fun p => (p.1, a.eval p.2) := by simp
    have hnot : ¬ (rows.length * n > 2 ^ 24) := by omega
    have hzero : (zeroValue e).run P w = .ok z w := by simp [zeroValue, typeInfo, hinf, hz]
    have hsize : (sizeOf e).run P w = .ok n w := by simp [Go.sizeOf, typeInfo, hinf, hsz]
    simp only [execOp, Instr.buildSlice, Sem.run_bind, run_underlying hS.u, Result.andThen_ok, hsize, if_neg hnot, if_neg h0, hzero, Sem.run_pure, hm, f1, Array.toArray_toList]
    simp [newRow, newObj, Sem.run]
/-- a literal that is not changed behind -/
theorem step_lit (ty : TypeId) (len : Nat) (parts : List (Nat × Operand)) {e : TypeId} {n bytes : Nat} [hS : Sli P ty e n bytes] {rows : List (List T)} (hr : rowsOf 0 (parts.map fun p => (p.1, ρ p.2)) = some rows) (hl : rows.length = len) (hn : ∀ i, i < rows.length → (rows.getD i []).length = n) (hmax : len * n ≤ 16777216) :
    StepK P .p ⟨dst, .buildSlice ty len parts.toArray, ty0, pos, af, g⟩ ρ H H (.c (.t (.s rows))) :=
  ⟨rfl, fun H2 E c a w K Q hC hx hK => by
    have hF := sli_facts hS.h
    obtain ⟨cs, h1, h2, h3⟩ := lit_run (E := E) (H := H2) (c := c) ty len parts hF hr hl hn hmax hx
    have hg : Grew w (w.alloc (.cells cs.toArray e)) := Grew.of_below ((Below.refl _ _).alloc (Nat.le_refl _) _)
    obtain ⟨k1, k2⟩ := hC.grew hg (fun b i => c.A b i ∨ (b = w.heap.size)) (fun b i h => .inl h) (fun b i h => h.imp id (fun e => ⟨Nat.le_of_eq e.symm, by rw [e]; simp⟩))
    unfold Oper.wp
    rw [h3]
    refine hK _ _ _ k1 k2 (.c (.t ?_))
    subst hl
    have hpn := hF.pos
    refine .s w.heap.size 0 rows.length n rows (fun i j => cs.getD (i * n + j) undef) (Nat.le_refl _) ?_ hn (fun i j hi hj => ⟨.inr rfl, ?_⟩) (fun i j hi hj => (h2 i j hi hj).mono k2.cell)
    · unfold maxLen
      have : rows.length * 1 ≤ rows.length * n := Nat.mul_le_mul_left _ hpn
      omega
    · have hlt : i * n + j < cs.length := by
        rw [h1]
        have : (i + 1) * n ≤ rows.length * n := Nat.mul_le_mul_right _ hi
        rw [Nat.add_mul, Nat.one_mul] at this
        omega
      rw [Nat.zero_add, World.cell?_alloc_at _ _ _ _ rfl]
      simp [List.getD_eq_getElem?_getD, hlt]⟩
/-- a row of the call's own, in memory -/
theorem Conc.newRow {E : Ent} {c : Cx} {w : World} (hC : Conc E c H w) (k : Nat) (hk : hget H k = none) (e : TypeId) (n : Nat) (hpn : 0 < n) (rows : List (List T)) (cs : List Value) (h1 : cs.length = rows.length * n) (hmax : rows.length ≤ maxLen) (hn : ∀ i, i < rows.length → (rows.getD i []).length = n)
    (h2 : ∀ i j, i < rows.length → j < n → TRep c.A w (cs.getD (i * n + j) undef) ((rows.getD i []).getD j default)) :
    ∃ c', Conc E c' (hset H k (.row e n rows)) (w.alloc (.cells cs.toArray e)) ∧ Later c H w c' (hset H k (.row e n rows)) (w.alloc (.cells cs.toArray e)) ∧ CRep c' (hset H k (.row e n rows)) (w.alloc (.cells cs.toArray e)) (.slice (some ⟨w.heap.size, 0, none⟩) rows.length rows.length) (.own k rows.length) := by
  obtain ⟨g1, g2⟩ := hC.fresh k hk (.row e n rows) (.slice (some ⟨w.heap.size, 0, none⟩) rows.length rows.length) cs.toArray e (fun b hb => blk_sl hb) (fun hlat =>
    ⟨hpn, cs, by
      have := World.ownsRow_lit (e := e) (size := n) (base := 0) w cs.toArray rows.length (Nat.zero_le _) hmax (by simpa using h1)
      exact Owns.of (b := 0) (by simpa using this), fun i hi => ⟨hn i hi, fun j hj => (h2 i j hi hj).mono hlat.cell⟩, fun b hb i hA => by
        have hb' : b = w.heap.size := by
          have : blk (if k = k then Value.slice (some ⟨w.heap.size, 0, none⟩) rows.length rows.length else c.m k) = some b := hb
          rw [if_pos rfl] at this; exact blk_sl this
        have := hC.lt _ _ hA; omega⟩)
  exact ⟨_, g1, g2, .own (by rw [hget_hset, if_pos rfl]) rfl (Nat.le_refl _) (fun _ => (if_pos rfl).symm)⟩
/-- a row in a new block with room behind -/
theorem Conc.bornRow {E : Ent} {c : Cx} {w : World} (hC : Conc E c H w) (k : Nat) (e : TypeId) (n : Nat) (hpn : 0 < n) (rows : List (List T)) (h0 : 0 < rows.length) (hk : hget H k = none ∨ (hget H k = some (.row e n []) ∧ blk (c.m k) = none)) (CC : Array Value) (cap : Nat) (hcap : rows.length ≤ cap) (hmax : cap ≤ maxLen) (hsz : CC.size = cap * n) (hn : ∀ i, i < rows.length → (rows.getD i []).length = n)
    (vs : Nat → Nat → Value) (hcc : ∀ i j, i < rows.length → j < n → CC[i * n + j]? = some (vs i j)) (h2 : ∀ i j, i < rows.length → j < n → TRep c.A w (vs i j) ((rows.getD i []).getD j default)) :
    ∃ c', Conc E c' (hset H k (.row e n rows)) (w.alloc (.cells CC e)) ∧ Later c H w c' (hset H k (.row e n rows)) (w.alloc (.cells CC e)) ∧ CRep c' (hset H k (.row e n rows)) (w.alloc (.cells CC e)) (.slice (some ⟨w.heap.size, 0, none⟩) rows.length cap) (.own k rows.length) := by
  obtain ⟨cap, rfl⟩ : ∃ q, cap = q + 1 := ⟨cap - 1, by omega⟩
  obtain ⟨g1, g2⟩ := hC.fresh0 k (.row e n rows) (fun o' ho' => by
      rcases hk with hk | ⟨hk, hb⟩
      · rw [hk] at ho'; cases ho'
      · rw [hk] at ho'; injection ho' with ho'
        exact ⟨hb, e, n, [], rows, ho'.symm, rfl, h0⟩) (.slice (some ⟨w.heap.size, 0, none⟩) rows.length (cap + 1)) CC e (fun b hb => blk_sl hb) (fun hlat =>
    ⟨hpn, CC.toList.take (rows.length * n), .inr ⟨w.heap.size, cap, CC, if_pos rfl, heap_new w _, hcap, hmax, hsz, rfl⟩, fun i hi => ⟨hn i hi, fun j hj => by
        have hlt : i * n + j < rows.length * n := by
          have : (i + 1) * n ≤ rows.length * n := Nat.mul_le_mul_right _ hi
          rw [Nat.add_mul, Nat.one_mul] at this
          omega
        have e1 : (CC.toList.take (rows.length * n)).getD (i * n + j) undef = vs i j := by
          have := hcc i j hi hj
          rw [List.getD_eq_getElem?_getD, List.getElem?_take, if_pos hlt]
          rw [Array.getElem?_toList, this]; rfl
        rw [e1]
        exact (h2 i j hi hj).mono hlat.cell⟩, fun b hb i hA => by
        have hb' : b = w.heap.size := by
          have : blk (if k = k then Value.slice (some ⟨w.heap.size, 0, none⟩) rows.length (cap + 1) else c.m k) = some b := hb
          rw [if_pos rfl] at this; exact blk_sl this
        have := hC.lt _ _ hA; omega⟩)
  exact ⟨_, g1, g2, .own (by rw [hget_hset, if_pos rfl]) rfl (Nat.le_refl _) (fun _ => (if_pos rfl).symm)⟩
/-- a literal that will grow, or be written -/
theorem step_lit_own (k : Nat) (ty : TypeId) (len : Nat) (parts : List (Nat × Operand)) {e : TypeId} {n bytes : Nat} [hS : Sli P ty e n bytes] (hk : hget H k = none) {rows : List (List T)} (hr : rowsOf 0 (parts.map fun p => (p.1, ρ p.2)) = some rows) (hl : rows.length = len) (hn : ∀ i, i < rows.length → (rows.getD i []).length = n) (hmax : len * n ≤ 16777216) :
    StepK P .w ⟨dst, .buildSlice ty len parts.toArray, ty0, pos, af, g⟩ ρ H (hset H k (.row e n rows)) (.c (.own k rows.length)) := by
  intro E c a w K Q hC hx hK
  have hF := sli_facts hS.h
  obtain ⟨cs, h1, h2, h3⟩ := lit_run (E := E) (H := H) (c := c) ty len parts hF hr hl hn hmax hx
  have hpn := hF.pos
  subst hl
  have hm : rows.length ≤ maxLen := by
    unfold maxLen
    have : rows.length * 1 ≤ rows.length * n := Nat.mul_le_mul_left _ hpn
    omega
  obtain ⟨c', g1, g2, g3⟩ := hC.newRow k hk e n hpn rows cs h1 hm hn h2
  unfold Oper.wp
  rw [h3]
  exact hK _ c' _ g1 g2 (.c g3)
/-- make -/
theorem step_make (k : Nat) (ty : TypeId) (x y : Operand) {e : TypeId} {n bytes : Nat} [hS : Sli P ty e n bytes] {z : List Value} [hZ : Zro P e z] (hk : hget H k = none) {len : Nat} {k1 k2 : IntKind} (hx : ρ x = .c (.t (.v (.int k1 len)))) (hy : ρ y = .c (.t (.v (.int k2 len)))) (hmax : len ≤ 1000000000) (hbytes : bytes ≤ 1000) :
    StepK P .w ⟨dst, .makeSlice ty x y, ty0, pos, af, g⟩ ρ H (hset H k (.row e n (List.replicate len (z.map .v)))) (.c (.own k len)) := by
  intro E c a w K Q hC hxx hK
  have hF := sli_facts hS.h
  obtain ⟨inf, zv, hinf, hz, hsz, hby, hzs⟩ := hF.i
  have ex := exAV_eq (hx ▸ hxx x (by simp [Op.operands])) (y := .int k1 len) rfl
  have ey := exAV_eq (hy ▸ hxx y (by simp [Op.operands])) (y := .int k2 len) rfl
  have hzl : zv.cells.toList = z := by
    have := hZ.h
    rw [hinf] at this
    simpa [hz] using this
  have hb : (inf.bytes : Int) * (len : Int) ≤ 281474976710656 := by
    rw [hby]
    have h1 : ((bytes * len : Nat) : Int) ≤ ((1000 * 1000000000 : Nat) : Int) := by exact_mod_cast Nat.mul_le_mul hbytes hmax
    rw [Int.natCast_mul] at h1
    omega
  have hr := run_make (P := P) w ty e inf zv hF.u hinf hz k1 k2 len len (by omega) (Int.le_refl _) hb (by omega)
  simp only [Int.toNat_natCast] at hr
  have hlen : (List.replicate len (z.map T.v)).length = len := by simp
  obtain ⟨c', g1, g2, g3⟩ := hC.newRow k hk e n hF.pos (List.replicate len (z.map .v)) (madeCells zv.cells (len * inf.size)).toList (by simp [size_madeCells, hsz]) (by rw [hlen]; unfold maxLen; omega) (fun i hi => by
      rw [hlen] at hi
      simp [List.getD_eq_getElem?_getD, hi, ← hzl, hzs]) (fun i j hi hj => by
      rw [hlen] at hi
      have hlt : i * n + j < len * inf.size := by
        rw [hsz]
        have : (i + 1) * n ≤ len * n := Nat.mul_le_mul_right _ hi
        rw [Nat.add_mul, Nat.one_mul] at this
        omega
      have e1 : (madeCells zv.cells (len * inf.size)).toList.getD (i * n + j) undef = z.getD j undef := by
        unfold madeCells
        have hmod : (i * n + j) % zv.cells.size = j := by rw [hzs, Nat.add_comm, Nat.add_mul_mod_self_right]; exact Nat.mod_eq_of_lt hj
        simp only [List.getD_eq_getElem?_getD, Array.getElem?_toList, Array.getElem?_map]
        rw [Array.getElem?_range]
        simp [hlt, hmod, ← hzl]
        have : j < zv.cells.size := by omega
        simp [this]
      rw [e1]
      have hjz : j < z.length := by rw [← hzl]; simpa [hzs] using hj
      simp only [List.getD_eq_getElem?_getD, List.getElem?_replicate, hi, if_true, Option.getD_some, List.getElem?_map, List.getElem?_eq_getElem hjz, Option.map_some]
      exact .v _ (List.all_eq_true.1 hZ.one _ (List.getElem_mem hjz)))
  unfold Oper.wp
  simp only [execOp, ex, ey, Sem.run_bind, hr, Result.andThen_ok, Sem.run_pure]
  simp only [hlen, Array.toArray_toList] at g1 g2 g3
  exact hK _ c' _ g1 g2 (.c g3)
end
end Go.Proofs.YtoebfmhogkjmgaaGreatDoor.Fx
