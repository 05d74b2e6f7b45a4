/- Structures, slices, appends. No program in sight. -/
import Derived.Test.YtoebfmhogkjmgaaGreatDoorGxD
import Derived.Test.YtoebfmhogkjmgaaGreatDoorFxI
namespace Go.Proofs.YtoebfmhogkjmgaaGreatDoor.Gx
open Go.RowKit
open Fx (splice splice_getD splice_length shapeB add_plain run_fieldAt run_loadVar_cells zip_fold places_run zro_run sliB SliF sli_facts)
set_option linter.unusedVariables false
set_option linter.unusedSimpArgs false
/-- parts put into cells -/
def fillG (place : Nat → Option (Nat × Nat)) (cells : List GC) : List (Nat × GA) → Option (List GC)
  | [] => some cells
  | (i, v) :: rest =>
    match place i, cellsG v with
    | some (off, size), some l => if l.length = size ∧ off + size ≤ cells.length then fillG place (splice cells off l) rest else none
    | _, _ => none
theorem fill_run {m : GM} (pl : Nat → Option (Nat × Nat)) : ∀ (parts : List (Nat × Value)) (ps : List (Nat × GA)) (cells : Array Value) (cl r : List GC), parts.length = ps.length →
    (∀ i, i < ps.length → (parts.getD i (0, undef)).1 = (ps.getD i (0, .dead)).1 ∧ VRep m (parts.getD i (0, undef)).2 (ps.getD i (0, .dead)).2) → cells.size = cl.length → (∀ i, i < cl.length → CRep m (cells.toList.getD i undef) (cl.getD i default)) → fillG pl cl ps = some r →
    ∃ cells', Instr.fill pl cells parts = some cells' ∧ cells'.size = r.length ∧ r.length = cl.length ∧ ∀ i, i < r.length → CRep m (cells'.toList.getD i undef) (r.getD i default) := by
  intro parts
  induction parts with
  | nil =>
    intro ps cells cl r h1 _ h3 h4 h5
    have : ps = [] := List.length_eq_zero_iff.1 (by simpa using h1.symm)
    subst this
    injection h5 with h5; subst h5
    exact ⟨cells, rfl, h3, rfl, h4⟩
  | cons p t ih =>
    intro ps cells cl r h1 h2 h3 h4 h5
    cases ps with
    | nil => simp at h1
    | cons q u =>
      obtain ⟨i, v⟩ := p
      obtain ⟨i', x⟩ := q
      obtain ⟨e1, e2⟩ := h2 0 (by simp)
      simp at e1 e2
      subst e1
      unfold fillG at h5
      cases hp : pl i with
      | none => rw [hp] at h5; cases h5
      | some os =>
        obtain ⟨off, size⟩ := os
        cases hc : cellsG x with
        | none => rw [hp, hc] at h5; cases h5
        | some l =>
          rw [hp, hc] at h5
          simp only at h5
          split at h5
          · rename_i hs
            obtain ⟨g1, g2⟩ := cells_rep e2 hc
            unfold Instr.fill
            rw [hp]
            simp only
            have hsz : ¬ ((decide (v.cells.size ≠ size) || decide (off + v.cells.size > cells.size)) = true) := by
              simp only [Bool.or_eq_true, decide_eq_true_eq]
              rw [g1, h3]; omega
            rw [if_neg hsz]
            have hz := zip_fold off v.cells.toList 0 cells (by simp; omega)
            have hfold : v.cells.zipIdx.foldl (fun cs (x : Value × Nat) => cs.setIfInBounds (off + x.2) x.1) cells = (splice cells.toList off v.cells.toList).toArray := by
              rw [← Array.foldl_toList, Array.toList_zipIdx]
              apply Array.ext'
              rw [hz]; simp
            have hlenl : v.cells.toList.length = l.length := by simpa using g1
            have hlsp : (splice cl off l).length = cl.length := splice_length _ _ _ (by omega)
            obtain ⟨c', f1, f2, f3, f4⟩ := ih u (splice cells.toList off v.cells.toList).toArray (splice cl off l) r (by simpa using h1) (fun j hj => by have := h2 (j + 1) (by simpa using hj); simpa using this) (by
                simp only [List.size_toArray]
                rw [splice_length _ _ _ (by simp; omega), hlsp]
                simpa using h3) (fun j hj => by
                rw [hlsp] at hj
                simp only
                rw [splice_getD _ _ _ (by simp; omega), splice_getD _ _ _ (by omega), hlenl]
                split
                · exact g2 _ (by omega)
                · exact h4 j hj) h5
            exact ⟨c', by rw [hfold]; exact f1, f2, f3.trans hlsp, f4⟩
          · cases h5
section
variable {P : Program} {ρ : Operand → GA} {dst : Option Tmp} {ty0 : TypeId} {pos : String} {af : Array Edge} {g : Option (Nat × Bool)}
theorem parts_rep {m : GM} {a : Act} (parts : List (Nat × Operand)) (h : ∀ p ∈ parts, VRep m (a.eval p.2) (ρ p.2)) : ∀ i, i < (parts.map fun p => (p.1, ρ p.2)).length → ((parts.map fun p => (p.1, a.eval p.2)).getD i (0, undef)).1 = ((parts.map fun p => (p.1, ρ p.2)).getD i (0, .dead)).1 ∧ VRep m ((parts.map fun p => (p.1, a.eval p.2)).getD i (0, undef)).2 ((parts.map fun p => (p.1, ρ p.2)).getD i (0, .dead)).2 := fun i hi => by
  have hi' : i < parts.length := by simpa using hi
  simp only [List.getD_eq_getElem?_getD, List.getElem?_map, List.getElem?_eq_getElem hi', Option.map_some, Option.getD_some]
  exact ⟨trivial, h _ (List.getElem_mem hi')⟩
theorem zcells_rep {m : GM} {z : List Value} (h : z.all (·.oneCell') = true) : ∀ i, i < (z.map constC).length → CRep m (z.getD i undef) ((z.map constC).getD i default) := fun i hi => by
  have hi' : i < z.length := by simpa using hi
  have e1 : (z.map constC).getD i default = constC z[i] := by simp [List.getD_eq_getElem?_getD, List.getElem?_map, List.getElem?_eq_getElem hi']
  have e2 : z.getD i undef = z[i] := by simp [List.getD_eq_getElem?_getD, List.getElem?_eq_getElem hi']
  rw [e1, e2]
  exact constC_rep m _ (List.all_eq_true.1 h _ (List.getElem_mem hi'))
theorem build_ok (ty : TypeId) (parts : List (Nat × Operand)) {pl : List (Nat × Nat)} {z : List Value} (hS : Fx.stc P ty = some (pl, z)) {r : List GC} (hr : fillG (fun i => pl[i]?) (z.map constC) (parts.map fun p => (p.1, ρ p.2)) = some r) (H : GH) :
    Step P ⟨dst, .build ty parts.toArray, ty0, pos, af, g⟩ ρ H H (.agg r) := step_val fun w0 m w a _ h => by
  obtain ⟨s1, s2, s3⟩ := Fx.stc_ok hS
  obtain ⟨fs, hu, hpl⟩ := places_run s1
  obtain ⟨zv, hz1, hz2⟩ := zro_run s2 w
  have hparts := parts_rep (m := m) (a := a) (ρ := ρ) parts (fun p hp => h _ (by simp [Op.operands]; exact ⟨_, hp⟩))
  obtain ⟨cells', f1, f2, _, f3⟩ := fill_run (m := m) (fun (i : Nat) => (pl[i]? : Option (Nat × Nat))) (parts.map fun p => (p.1, a.eval p.2)) _ zv.cells (z.map constC) r (by simp) hparts (by rw [List.length_map, ← hz1]; simp) (by rw [hz1]; exact zcells_rep s3) hr
  refine ⟨.agg cells', ?_, ?_⟩
  · simp only [execOp, Instr.build, Sem.run_bind, hz2, Result.andThen_ok, run_underlying hu, hpl]
    have hm : (parts.toArray.map fun (i, x) => (i, a.eval x)).toList = parts.map fun p => (p.1, a.eval p.2) := by simp
    have hpl' : (fun (i : Nat) => (pl.toArray[i]? : Option (Nat × Nat))) = fun (i : Nat) => pl[i]? := by funext i; simp
    rw [hm, hpl', f1]
    simp [Result.andThen]
  · have e : Value.agg cells' = .agg cells'.toList.toArray := by simp
    rw [e]
    exact .agg _ _ (by simpa using f2) f3
theorem field_ok (ty : TypeId) (x : Operand) (f : Nat) {off n : Nat} {agg : Bool} (hF : Fx.fldB P ty f off n agg = true) {l : List GC} (hx : ρ x = .agg l) (hn : agg = false → n = 1) (hl : off + n ≤ l.length) (H : GH) : Step P ⟨dst, .field ty x f, ty0, pos, af, g⟩ ρ H H (takeG agg n l off) := step_val fun w0 m w a _ h => by
  have hv := h x (by simp [Op.operands])
  rw [hx] at hv
  generalize hval : a.eval x = val at hv
  cases hv with
  | agg cs l h1 h2 =>
    unfold Fx.fldB at hF
    split at hF
    · rename_i fs hu
      split at hF
      · rename_i d hd
        simp only [Bool.and_eq_true, beq_iff_eq, decide_eq_true_eq] at hF
        obtain ⟨⟨e1, e2⟩, e3⟩ := hF
        refine ⟨if agg then .agg (mapR (fun j => cs.getD (off + j) undef) n).toArray else (mapR (fun j => cs.getD (off + j) undef) n).getD 0 undef, ?_, take_rep (l := l) (i := off) (cs := mapR (fun j => cs.getD (off + j) undef) n) (mapR_len _ _) hn hl (fun j hj => ?_)⟩
        · cases agg with
          | true =>
            simp only [execOp, hval, Instr.field, Sem.run_bind, run_underlying hu, Result.andThen_ok, hd, asAgg, Sem.run_pure, part, Fx.Shp.isAgg e2, if_true, Fx.Shp.size e2, e1]
            congr 3
            apply Array.ext'
            apply List.ext_getElem?
            intro j
            by_cases hj : j < n
            · have hlt : off + j < cs.length := by omega
              simp [mapR, List.getElem?_map, List.getElem?_range hj, List.getD_eq_getElem?_getD, hlt, List.getElem?_take, List.getElem?_drop, hj]
            · rw [List.getElem?_eq_none (by simp; omega), List.getElem?_eq_none (by simp [mapR]; omega)]
          | false =>
            have := hn rfl
            subst this
            have hlt : off < cs.length := by omega
            simp only [execOp, hval, Instr.field, Sem.run_bind, run_underlying hu, Result.andThen_ok, hd, asAgg, Sem.run_pure, part, Fx.Shp.isAgg e2, e1]
            simp [mapR, hlt, List.getD_eq_getElem?_getD]
        · rw [mapR_get _ _ _ hj]; exact h2 (off + j) (by omega)
      · cases hF
    · cases hF
/-- a literal -/
theorem lit_ok (k : Nat) (ty : TypeId) (len : Nat) (parts : List (Nat × Operand)) {e : TypeId} {n bytes : Nat} (hS : sliB P ty e n bytes = true) {z : List Value} (hZ : Fx.zro P e = some z) {r : List GC} (hr : fillG (fun i => some (i * n, n)) ((List.range (len * n)).map fun i => constC (z.getD (i % n) undef)) (parts.map fun p => (p.1, ρ p.2)) = some r) (hmax : len * n ≤ 16777216) {ver : Nat} {H : GH} (hk : H k = none) :
    Step P ⟨dst, .buildSlice ty len parts.toArray, ty0, pos, af, g⟩ ρ H (up H k (.cells e r ver)) (.c (.sl k 0 len len n true)) := step_new fun w0 m w a hC h => by
  have hF := sli_facts hS
  obtain ⟨inf, zv, hinf, hz, hsz, hby, hzs⟩ := hF.i
  have hpn := hF.pos
  obtain ⟨z1, z2⟩ := Fx.zro_ok hZ
  have hzl : zv.cells.toList = z := by
    rw [hinf] at z1
    simpa [hz] using z1
  have hparts := parts_rep (m := m) (a := a) (ρ := ρ) parts (fun p hp => h _ (by simp [Op.operands]; exact ⟨_, hp⟩))
  have hzn : z.length = n := by rw [← hzl]; simpa using hzs
  have hzero : (zeroValue e).run P w = .ok zv w := by simp [zeroValue, typeInfo, hinf, hz]
  have hsize : (sizeOf e).run P w = .ok n w := by simp [Go.sizeOf, typeInfo, hinf, hsz]
  have hnot : ¬ (len * n > 2 ^ 24) := by omega
  have hrl : ((List.range (len * n)).map fun i => constC (z.getD (i % n) undef)).length = len * n := by simp
  have base : ∀ (C0 : Array Value), C0.size = len * n → (∀ i, i < len * n → C0.toList.getD i undef = z.getD (i % n) undef) →
      ∃ cells', Instr.fill (fun i => some (i * n, n)) C0 (parts.map fun p => (p.1, a.eval p.2)) = some cells' ∧ cells'.size = r.length ∧ r.length = len * n ∧ ∀ i, i < r.length → CRep m (cells'.toList.getD i undef) (r.getD i default) := fun C0 hs hc => by
    obtain ⟨c', f1, f2, f3, f4⟩ := fill_run (m := m) (fun i => some (i * n, n)) (parts.map fun p => (p.1, a.eval p.2)) _ C0 _ r (by simp) hparts (by rw [hrl]; exact hs) (fun i hi => by
      rw [hrl] at hi
      rw [hc i hi]
      have e1 : ((List.range (len * n)).map fun i => constC (z.getD (i % n) undef)).getD i default = constC (z.getD (i % n) undef) := by
        simp [List.getD_eq_getElem?_getD, List.getElem?_map, List.getElem?_range hi]
      rw [e1]
      have hlt : i % n < z.length := by rw [hzn]; exact Nat.mod_lt _ hpn
      refine constC_rep m _ (List.all_eq_true.1 z2 _ ?_)
      simp only [List.getD_eq_getElem?_getD, List.getElem?_eq_getElem hlt, Option.getD_some]
      exact List.getElem_mem hlt) hr
    exact ⟨c', f1, f2, f3.trans hrl, f4⟩
  have hm : (parts.toArray.map fun (i, x) => (i, a.eval x)).toList = parts.map fun p => (p.1, a.eval p.2) := by simp
  have fin : ∀ (cells' : Array Value), cells'.size = r.length → r.length = len * n → (∀ i, i < r.length → CRep m (cells'.toList.getD i undef) (r.getD i default)) →
      ∃ m', Conc w0 m' (up H k (.cells e r ver)) (w.alloc (.cells cells' e)) ∧ Ext m m' ∧ VRep m' (.slice (some ⟨w.heap.size, 0 + 0, none⟩) len len) (.c (.sl k 0 len len n true)) := fun cells' f2 f3 f4 => by
    obtain ⟨m', g1, g2, g3⟩ := box_run hC hk e cells'.toList r ver (by simpa using f2) f4
    rw [Array.toArray_toList] at g1
    refine ⟨m', g1, g2, .c (.sl g3 (Nat.le_refl _) (fun _ => rfl) (by omega) (Nat.le_refl _) hpn ?_)⟩
    unfold maxLen
    have : len * 1 ≤ len * n := Nat.mul_le_mul_left _ hpn
    omega
  by_cases h0 : len * n = 0
  · obtain ⟨cells', f1, f2, f3, f4⟩ := base #[] (by simp [h0]) (fun i hi => by omega)
    obtain ⟨m', q1, q2, q3⟩ := fin cells' f2 f3 f4
    have hz0 : ∀ f : Nat → Value, (Array.range (len * n)).map f = #[] := fun f => by rw [h0]; apply Array.ext'; simp
    refine ⟨_, m', _, ?_, q1, q2, q3⟩
    simp only [execOp, Instr.buildSlice, Sem.run_bind, run_underlying hF.u, Result.andThen_ok, hsize, if_neg hnot, if_pos h0, Sem.run_pure, hm, hz0, f1]
    simp [newRow, newObj, Sem.run]
  · obtain ⟨cells', f1, f2, f3, f4⟩ := base ((Array.range (len * n)).map (zv.cells[· % zv.cells.size]!)) (by simp) (fun i hi => by
      have hlt : i % n < zv.cells.size := by rw [hzs]; exact Nat.mod_lt _ hpn
      rw [← hzl]
      simp [List.getD_eq_getElem?_getD, hi, hzs, hlt]
      rw [getElem!_pos zv.cells (i % n) hlt, getElem?_pos zv.cells (i % n) hlt]; rfl)
    obtain ⟨m', q1, q2, q3⟩ := fin cells' f2 f3 f4
    refine ⟨_, m', _, ?_, q1, q2, q3⟩
    simp only [execOp, Instr.buildSlice, Sem.run_bind, run_underlying hF.u, Result.andThen_ok, hsize, if_neg hnot, if_neg h0, hzero, Sem.run_pure, hm, f1]
    simp [newRow, newObj, Sem.run]
/-- make -/
theorem make_ok (k : Nat) (ty : TypeId) (x y : Operand) {e : TypeId} {n bytes : Nat} (hS : sliB P ty e n bytes = true) {z : List Value} (hZ : Fx.zro P e = some z) {len cap : Nat} {k1 k2 : IntKind} (hx : ρ x = .c (.v (.int k1 len))) (hy : ρ y = .c (.v (.int k2 cap))) (hle : len ≤ cap) (hmax : cap ≤ 1000000) (hbytes : bytes ≤ 1000) {ver : Nat} {H : GH} (hk : H k = none) :
    Step P ⟨dst, .makeSlice ty x y, ty0, pos, af, g⟩ ρ H (up H k (.cells e ((List.range (cap * n)).map fun i => constC (z.getD (i % n) undef)) ver)) (.c (.sl k 0 len cap n true)) := step_new fun w0 m w a hC h => by
  have hF := sli_facts hS
  obtain ⟨inf, zv, hinf, hz, hsz, hby, hzs⟩ := hF.i
  have hpn := hF.pos
  obtain ⟨z1, z2⟩ := Fx.zro_ok hZ
  have hzl : zv.cells.toList = z := by
    rw [hinf] at z1
    simpa [hz] using z1
  have hzn : z.length = n := by rw [← hzl]; simpa using hzs
  have ex := rep_int (hx ▸ h x (by simp [Op.operands]))
  have ey := rep_int (hy ▸ h y (by simp [Op.operands]))
  have hb : (inf.bytes : Int) * (cap : Int) ≤ 281474976710656 := by
    rw [hby]
    have h1 : ((bytes * cap : Nat) : Int) ≤ ((1000 * 1000000 : Nat) : Int) := by exact_mod_cast Nat.mul_le_mul hbytes hmax
    rw [Int.natCast_mul] at h1
    omega
  have hr := run_make (P := P) w ty e inf zv hF.u hinf hz k1 k2 len cap (by omega) (by exact_mod_cast hle) hb (by omega)
  simp only [Int.toNat_natCast] at hr
  have hcl : (madeCells zv.cells (cap * inf.size)).toList.length = cap * n := by simp [size_madeCells, hsz]
  obtain ⟨m', g1, g2, g3⟩ := box_run hC hk e (madeCells zv.cells (cap * inf.size)).toList ((List.range (cap * n)).map fun i => constC (z.getD (i % n) undef)) ver (by rw [hcl]; simp) (fun i hi => by
    rw [List.length_map, List.length_range] at hi
    have e1 : (madeCells zv.cells (cap * inf.size)).toList.getD i undef = z.getD (i % n) undef := by
      unfold madeCells
      have hlt : i % n < zv.cells.size := by rw [hzs]; exact Nat.mod_lt _ hpn
      have hi2 : i < cap * inf.size := by rw [hsz]; exact hi
      rw [← hzl]
      simp [List.getD_eq_getElem?_getD, hi2, hzs, hlt]
      rw [getElem!_pos zv.cells (i % n) hlt, getElem?_pos zv.cells (i % n) hlt]; rfl
    have e2 : ((List.range (cap * n)).map fun i => constC (z.getD (i % n) undef)).getD i default = constC (z.getD (i % n) undef) := by
      simp [List.getD_eq_getElem?_getD, List.getElem?_map, List.getElem?_range hi]
    rw [e1, e2]
    have hlt : i % n < z.length := by rw [hzn]; exact Nat.mod_lt _ hpn
    refine constC_rep m _ (List.all_eq_true.1 z2 _ ?_)
    simp only [List.getD_eq_getElem?_getD, List.getElem?_eq_getElem hlt, Option.getD_some]
    exact List.getElem_mem hlt)
  rw [Array.toArray_toList] at g1
  have hlen : ((List.range (cap * n)).map fun i => constC (z.getD (i % n) undef)).length = cap * n := by simp
  rw [hlen] at g3
  refine ⟨.slice (some ⟨w.heap.size, 0 + 0, none⟩) len cap, m', _, ?_, g1, g2, .c (.sl g3 (Nat.le_refl _) (fun _ => rfl) (by omega) hle hpn (by unfold maxLen; omega))⟩
  simp only [execOp, ex, ey, Sem.run_bind, hr, Result.andThen_ok, Sem.run_pure]
/-- a string's part -/
theorem bytesOf_size (l : List Nat) : (bytesOf l).size = l.length := by
  show ((l.map UInt8.ofNat).toArray).size = _
  simp
theorem bytesOf_extract (l : List Nat) (i j : Nat) : (bytesOf l).extract i j = bytesOf ((l.take j).drop i) := by
  apply ByteArray.ext
  rw [ByteArray.data_extract]
  apply Array.ext'
  simp only [bytesOf, Array.toList_extract, List.extract_eq_take_drop, List.map_drop, List.map_take]
  rw [List.drop_take]
theorem cut_s_ok (ty : TypeId) (x : Operand) (lo hi : Option Operand) {l : List Nat} (i j : Nat) (hu : P.underlying ty = some .string) (hx : ρ x = .c (.s l)) (hl : match lo with | some y => ∃ kd, ρ y = .c (.v (.int kd i)) | none => i = 0) (hh : match hi with | some y => ∃ kd, ρ y = .c (.v (.int kd j)) | none => j = l.length) (h1 : i ≤ j) (h2 : j ≤ l.length) (H : GH) :
    Step P ⟨dst, .slice ty x lo hi none, ty0, pos, af, g⟩ ρ H H (.c (.s ((l.take j).drop i))) := step_val fun w0 m w a _ h => by
  have hv := h x (by simp [Op.operands])
  rw [hx] at hv
  have e := gv_eq hv (y := .string (bytesOf l)) rfl
  have hb : ∀ b ∈ l, b < 256 := by
    generalize a.eval x = q at hv
    cases hv with
    | c hv => cases hv with
      | s l h => exact h
  refine ⟨.string (bytesOf ((l.take j).drop i)), ?_, .c (.s _ (fun b hm => hb b (List.mem_of_mem_take (List.mem_of_mem_drop hm))))⟩
  have hlo : ∀ y, lo = some y → ∃ kd, a.eval y = .int kd i := fun y hy => by
    subst hy
    obtain ⟨kd, hk⟩ := hl
    exact ⟨kd, rep_int (hk ▸ h y (by simp [Op.operands]))⟩
  have hhi : ∀ y, hi = some y → ∃ kd, a.eval y = .int kd j := fun y hy => by
    subst hy
    obtain ⟨kd, hk⟩ := hh
    exact ⟨kd, rep_int (hk ▸ h y (by simp [Op.operands]))⟩
  rw [← bytesOf_extract]
  cases lo with
  | none =>
    have hi0 : i = 0 := hl
    subst hi0
    cases hi with
    | none =>
      have hj : j = l.length := hh
      subst hj
      simp [execOp, e, Instr.sliceAt, Instr.slice, Instr.sliceBounds, run_underlying hu, bytesOf_size]
      rw [bytesOf_extract]; simp
    | some y =>
      obtain ⟨kd, ey⟩ := hhi y rfl
      simp [execOp, e, ey, Instr.sliceAt, Instr.slice, Instr.sliceBounds, Instr.sliceBound, asIntOf, run_underlying hu, bytesOf_size, h2]
  | some x' =>
    obtain ⟨kx, ex⟩ := hlo x' rfl
    cases hi with
    | none =>
      have hj : j = l.length := hh
      subst hj
      simp [execOp, e, ex, Instr.sliceAt, Instr.slice, Instr.sliceBounds, Instr.sliceBound, asIntOf, run_underlying hu, bytesOf_size, h1]
    | some y =>
      obtain ⟨kd, ey⟩ := hhi y rfl
      simp [execOp, e, ex, ey, Instr.sliceAt, Instr.slice, Instr.sliceBounds, Instr.sliceBound, asIntOf, run_underlying hu, bytesOf_size, h1, h2]
/-- a slice's part: of at least one place, or of known room -/
theorem cut_sl_ok (ty : TypeId) (x : Operand) (lo hi : Option Operand) {e : TypeId} {n bytes : Nat} (hS : sliB P ty e n bytes = true) {k off len cap : Nat} {ex : Bool} (i j : Nat) (hx : ρ x = .c (.sl k off len cap n ex)) (hl : match lo with | some y => ∃ kd, ρ y = .c (.v (.int kd i)) | none => i = 0) (hh : match hi with | some y => ∃ kd, ρ y = .c (.v (.int kd j)) | none => j = len) (h1 : i ≤ j) (h2 : j ≤ cap) (hor : i < cap ∨ i = 0) (H : GH) :
    Step P ⟨dst, .slice ty x lo hi none, ty0, pos, af, g⟩ ρ H H (.c (.sl k (off + i * n) (j - i) (cap - i) n ex)) := step_val fun w0 m w a _ h => by
  have hF := sli_facts hS
  obtain ⟨inf, zv, hinf, hz, hsz, hby, hzs⟩ := hF.i
  have hv := h x (by simp [Op.operands])
  rw [hx] at hv
  obtain ⟨b, base, size, c, hm, e', q1, q2, q3, q4, q5, q6⟩ := rep_sl hv
  have hlo : ∀ y, lo = some y → ∃ kd, a.eval y = .int kd i := fun y hy => by
    subst hy
    obtain ⟨kd, hk⟩ := hl
    exact ⟨kd, rep_int (hk ▸ h y (by simp [Op.operands]))⟩
  have hhi : ∀ y, hi = some y → ∃ kd, a.eval y = .int kd j := fun y hy => by
    subst hy
    obtain ⟨kd, hk⟩ := hh
    exact ⟨kd, rep_int (hk ▸ h y (by simp [Op.operands]))⟩
  have hsize : (sizeOf e).run P w = .ok n w := by simp [Go.sizeOf, typeInfo, hinf, hsz]
  have hmul : i * n + (c - i) * n = c * n := by rw [← Nat.add_mul]; congr 1; omega
  refine ⟨.slice (some ⟨b, base + (off + i * n), none⟩) (j - i) (c - i), ?_, .c (.sl hm (by omega) (fun h => by rw [q2 h]) (by omega) (by omega) q5 (by omega))⟩
  have hadd : (if c = i then (some (⟨b, base + off, none⟩ : Addr)) else some ((⟨b, base + off, none⟩ : Addr).add (i * n))) = some ⟨b, base + (off + i * n), none⟩ := by
    split
    · rcases hor with h | h
      · omega
      · subst h; simp
    · simp [add_plain, Nat.add_assoc]
  have hjc : j ≤ c := by omega
  have hlenc : len ≤ c := by omega
  cases lo with
  | none =>
    have hi0 : i = 0 := hl
    subst hi0
    cases hi with
    | none =>
      have hj : j = len := hh
      subst hj
      simp only [execOp, e', Option.map_none, Instr.sliceAt, Instr.slice, Instr.sliceBounds, Sem.run_bind, run_underlying hF.u, Result.andThen_ok, Option.map_some, Sem.run_pure, hsize]
      rw [hadd]
    | some y =>
      obtain ⟨kd, ey⟩ := hhi y rfl
      simp only [execOp, e', ey, Option.map_none, Option.map_some, Instr.sliceAt, Instr.slice, Instr.sliceBounds, Instr.sliceBound, asIntOf, Sem.run_bind, run_underlying hF.u, Result.andThen_ok, Sem.run_pure, hsize]
      rw [if_pos ⟨by omega, by omega⟩]
      simp only [Sem.run_bind, Result.andThen_ok, Option.map_some, Sem.run_pure, hsize, Int.toNat_natCast]
      rw [hadd]
  | some x' =>
    obtain ⟨kx, ex'⟩ := hlo x' rfl
    cases hi with
    | none =>
      have hj : j = len := hh
      subst hj
      simp only [execOp, e', ex', Option.map_none, Option.map_some, Instr.sliceAt, Instr.slice, Instr.sliceBounds, Instr.sliceBound, asIntOf, Sem.run_bind, run_underlying hF.u, Result.andThen_ok, Sem.run_pure, hsize]
      rw [if_pos ⟨by omega, by omega⟩]
      simp only [Sem.run_bind, Result.andThen_ok, Option.map_some, Sem.run_pure, hsize, Int.toNat_natCast]
      rw [hadd]
    | some y =>
      obtain ⟨kd, ey⟩ := hhi y rfl
      simp only [execOp, e', ex', ey, Option.map_none, Option.map_some, Instr.sliceAt, Instr.slice, Instr.sliceBounds, Instr.sliceBound, asIntOf, Sem.run_bind, run_underlying hF.u, Result.andThen_ok, Sem.run_pure, hsize]
      rw [if_pos ⟨by omega, by omega⟩]
      simp only [Sem.run_bind, Result.andThen_ok, Sem.run_pure, hsize, Int.toNat_natCast]
      rw [if_pos ⟨by omega, by omega⟩]
      simp only [Sem.run_bind, Result.andThen_ok, Option.map_some, Sem.run_pure, hsize, Int.toNat_natCast]
      rw [hadd]
/-- an empty part, wherever -/
theorem cut_e_ok (ty : TypeId) (x : Operand) (lo hi : Option Operand) {e : TypeId} {n bytes : Nat} (hS : sliB P ty e n bytes = true) {k off len cap : Nat} {ex : Bool} (i : Nat) (hx : ρ x = .c (.sl k off len cap n ex)) (hl : match lo with | some y => ∃ kd, ρ y = .c (.v (.int kd i)) | none => i = 0) (hh : match hi with | some y => ∃ kd, ρ y = .c (.v (.int kd i)) | none => i = len) (h2 : i ≤ cap) (H : GH) :
    Step P ⟨dst, .slice ty x lo hi none, ty0, pos, af, g⟩ ρ H H (.c .e) := step_val fun w0 m w a _ h => by
  have hF := sli_facts hS
  obtain ⟨inf, zv, hinf, hz, hsz, hby, hzs⟩ := hF.i
  have hv := h x (by simp [Op.operands])
  rw [hx] at hv
  obtain ⟨b, base, size, c, hm, e', q1, q2, q3, q4, q5, q6⟩ := rep_sl hv
  have hlo : ∀ y, lo = some y → ∃ kd, a.eval y = .int kd i := fun y hy => by
    subst hy
    obtain ⟨kd, hk⟩ := hl
    exact ⟨kd, rep_int (hk ▸ h y (by simp [Op.operands]))⟩
  have hhi : ∀ y, hi = some y → ∃ kd, a.eval y = .int kd i := fun y hy => by
    subst hy
    obtain ⟨kd, hk⟩ := hh
    exact ⟨kd, rep_int (hk ▸ h y (by simp [Op.operands]))⟩
  have hsize : (sizeOf e).run P w = .ok n w := by simp [Go.sizeOf, typeInfo, hinf, hsz]
  refine ⟨.slice (some (if c = i then ⟨b, base + off, none⟩ else (⟨b, base + off, none⟩ : Addr).add (i * n))) 0 (c - i), ?_, .c (.e _ _)⟩
  have hadd : (if c = i then (some (⟨b, base + off, none⟩ : Addr)) else some ((⟨b, base + off, none⟩ : Addr).add (i * n))) = some (if c = i then ⟨b, base + off, none⟩ else (⟨b, base + off, none⟩ : Addr).add (i * n)) := by split <;> rfl
  have hz0 : i - i = 0 := Nat.sub_self i
  cases lo with
  | none =>
    have hi0 : i = 0 := hl
    subst hi0
    cases hi with
    | none =>
      have hj : 0 = len := hh
      subst hj
      simp only [execOp, e', Option.map_none, Instr.sliceAt, Instr.slice, Instr.sliceBounds, Sem.run_bind, run_underlying hF.u, Result.andThen_ok, Option.map_some, Sem.run_pure, hsize]
      rw [hadd]
    | some y =>
      obtain ⟨kd, ey⟩ := hhi y rfl
      simp only [execOp, e', ey, Option.map_none, Option.map_some, Instr.sliceAt, Instr.slice, Instr.sliceBounds, Instr.sliceBound, asIntOf, Sem.run_bind, run_underlying hF.u, Result.andThen_ok, Sem.run_pure, hsize]
      rw [if_pos ⟨by omega, by omega⟩]
      simp only [Sem.run_bind, Result.andThen_ok, Option.map_some, Sem.run_pure, hsize, Int.toNat_natCast]
      rw [hadd]
  | some x' =>
    obtain ⟨kx, ex'⟩ := hlo x' rfl
    cases hi with
    | none =>
      have hj : i = len := hh
      subst hj
      simp only [execOp, e', ex', Option.map_none, Option.map_some, Instr.sliceAt, Instr.slice, Instr.sliceBounds, Instr.sliceBound, asIntOf, Sem.run_bind, run_underlying hF.u, Result.andThen_ok, Sem.run_pure, hsize]
      rw [if_pos ⟨by omega, by omega⟩]
      simp only [Sem.run_bind, Result.andThen_ok, Option.map_some, Sem.run_pure, hsize, Int.toNat_natCast, hz0]
      rw [hadd]
    | some y =>
      obtain ⟨kd, ey⟩ := hhi y rfl
      simp only [execOp, e', ex', ey, Option.map_none, Option.map_some, Instr.sliceAt, Instr.slice, Instr.sliceBounds, Instr.sliceBound, asIntOf, Sem.run_bind, run_underlying hF.u, Result.andThen_ok, Sem.run_pure, hsize]
      rw [if_pos ⟨by omega, by omega⟩]
      simp only [Sem.run_bind, Result.andThen_ok, Sem.run_pure, hsize, Int.toNat_natCast]
      rw [if_pos ⟨by omega, by omega⟩]
      simp only [Sem.run_bind, Result.andThen_ok, Option.map_some, Sem.run_pure, hsize, Int.toNat_natCast, hz0]
      rw [hadd]
/-- how long -/
theorem len_ok (sty : TypeId) (x : Operand) {e : TypeId} {n bytes : Nat} (hS : sliB P sty e n bytes = true) {k off len cap n' : Nat} {ex : Bool} (hx : ρ x = .c (.sl k off len cap n' ex)) (H : GH) :
    Step P ⟨dst, .call { callee := .builtin .len, args := #[x], argTypes := #[sty] }, ty0, pos, af, g⟩ ρ H H (.c (.v (.int .i64 len))) := step_val fun w0 m w a _ h => by
  have hF := sli_facts hS
  have hv := h x (by simp [Op.operands, Call.operands])
  rw [hx] at hv
  obtain ⟨b, base, size, c, hm, e', _⟩ := rep_sl hv
  exact ⟨.int .i64 len, by simp [execOp, resolve, invoke, builtin, Builtin.len_, run_underlying hF.u, e', goInt], .c (.v _ rfl)⟩
theorem len_e_ok (sty : TypeId) (x : Operand) {e : TypeId} {n bytes : Nat} (hS : sliB P sty e n bytes = true) (hx : ρ x = .c .e) (H : GH) :
    Step P ⟨dst, .call { callee := .builtin .len, args := #[x], argTypes := #[sty] }, ty0, pos, af, g⟩ ρ H H (.c (.v (.int .i64 0))) := step_val fun w0 m w a _ h => by
  have hF := sli_facts hS
  have hv := h x (by simp [Op.operands, Call.operands])
  rw [hx] at hv
  generalize hval : a.eval x = q at hv
  cases hv with
  | c hv => cases hv with
    | e ad c => exact ⟨.int .i64 0, by simp [execOp, resolve, invoke, builtin, Builtin.len_, run_underlying hF.u, hval, goInt], .c (.v _ rfl)⟩
theorem cap_ok (sty : TypeId) (x : Operand) {e : TypeId} {n bytes : Nat} (hS : sliB P sty e n bytes = true) {k off len cap n' : Nat} (hx : ρ x = .c (.sl k off len cap n' true)) (H : GH) :
    Step P ⟨dst, .call { callee := .builtin .cap, args := #[x], argTypes := #[sty] }, ty0, pos, af, g⟩ ρ H H (.c (.v (.int .i64 cap))) := step_val fun w0 m w a _ h => by
  have hF := sli_facts hS
  have hv := h x (by simp [Op.operands, Call.operands])
  rw [hx] at hv
  obtain ⟨b, base, size, c, hm, e', _, q2, _⟩ := rep_sl hv
  refine ⟨.int .i64 cap, ?_, .c (.v _ rfl)⟩
  rw [← q2 rfl]
  simp [execOp, resolve, invoke, builtin, Builtin.cap_, run_underlying hF.u, e', goInt]
end
end Go.Proofs.YtoebfmhogkjmgaaGreatDoor.Gx
