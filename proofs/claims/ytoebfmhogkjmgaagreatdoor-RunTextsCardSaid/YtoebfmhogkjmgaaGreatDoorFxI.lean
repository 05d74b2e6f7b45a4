/- Own rows read and written, let go; slices cut; calls; the rule for a function. No program in sight. -/
import Derived.Test.YtoebfmhogkjmgaaGreatDoorFxH
namespace Go.Proofs.YtoebfmhogkjmgaaGreatDoor.Fx
open Go.RowKit
set_option linter.unusedVariables false
set_option linter.unusedSimpArgs false
section
variable {P : Program} {dst : Option Tmp} {ty0 : TypeId} {pos : String} {af : Array Edge} {g : Option (Nat × Bool)} {ρ : Operand → AV} {H : AHeap}
theorem own_some {w : World} {e : TypeId} {n m : Nat} {v : Value} {xs : List Value} (h : Owns w e n v m xs) (hm : 0 < m) : ∃ b cap cur, v = .slice (some ⟨b, 0, none⟩) m cap ∧ w.heap[b]? = some (.cells cur e (0, 0)) ∧ m ≤ cap ∧ cap ≤ maxLen ∧ cur.size = cap * n ∧ cur.toList.take (m * n) = xs := by
  rcases h with ⟨_, _, e2, _⟩ | ⟨b, cap, cur, e1, h2, h3, h4, h5, h6⟩
  · omega
  · exact ⟨b, cap + 1, cur, e1, h2, h3, h4, h5, h6⟩
theorem row_le {i n m j : Nat} (h : i < m) (hj : j ≤ n) : i * n + j ≤ m * n := by
  have : (i + 1) * n ≤ m * n := Nat.mul_le_mul_right _ h
  rw [Nat.add_mul, Nat.one_mul] at this
  omega
theorem step_index_own (sty : TypeId) (x ix : Operand) {e' : TypeId} {n' bytes : Nat} [hS : Sli P sty e' n' bytes] {k len : Nat} {e : TypeId} {n : Nat} {rows : List (List T)} {kd : IntKind} {i : Int} (hx : ρ x = .c (.own k len)) (ho : hget H k = some (.row e n rows)) (hl : len = rows.length) (hnn : n' = n) (hi : ρ ix = .c (.t (.v (.int kd i)))) (h0 : 0 ≤ i) (h1 : i < len) :
    StepK P .r ⟨dst, .indexAddr sty x ix, ty0, pos, af, g⟩ ρ H H (.c (.elo k len i.toNat 0)) :=
  ⟨rfl, fun H2 hsub => step_val (H := H2) fun E c w a hC h => by
    have ho := hsub _ _ ho
    have hv := h x (by simp [Op.operands])
    have hw := h ix (by simp [Op.operands])
    rw [hx] at hv
    rw [hi] at hw
    have ew := exAV_eq hw (y := .int kd i) rfl
    have es := cown hv ho hl
    obtain ⟨hpn, xs, hrow, _⟩ := hC.obj k _ ho
    have hF := sli_facts hS.h
    obtain ⟨inf, z, hinf, hz, hsz, hby, hzs⟩ := hF.i
    obtain ⟨b, cap, cur, e1, e2, _⟩ := own_some hrow (by omega)
    refine ⟨.pointer (some ⟨b, i.toNat * n, none⟩), ?_, .c (.elo ho rfl (by omega) (fun _ => ⟨by omega, b, cap, by rw [e1, hl], by simp⟩))⟩
    have h1' : i < (rows.length : Int) := by omega
    simp [execOp, es, e1, ew, Instr.indexAt, asIntOf, run_underlying hF.u, h0, h1', Go.sizeOf, typeInfo, hinf, hsz, hnn, add_plain]⟩
theorem celo {c : Cx} {H : AHeap} {w : World} {v : Value} {k len i j : Nat} {e : TypeId} {n : Nat} {rows : List (List T)} (h : VRep c H w v (.c (.elo k len i j))) (ho : hget H k = some (.row e n rows)) (hl : len = rows.length) : i < len ∧ ∃ b cap, c.m k = .slice (some ⟨b, 0, none⟩) len cap ∧ v = .pointer (some ⟨b, i * n + j, none⟩) := by
  cases h with
  | c h => cases h with
    | elo ho' h1 h2 h3 => rw [ho] at ho'; injection ho' with ho'; injection ho' with _ e2 e3; subst e2; subst e3; exact h3 hl
theorem step_field_elo (sty : TypeId) (x : Operand) (f : Nat) {off n' : Nat} {agg : Bool} [hF : Fld P sty f off n' agg] {k len i j : Nat} {e : TypeId} {n : Nat} {rows : List (List T)} (hx : ρ x = .c (.elo k len i j)) (ho : hget H k = some (.row e n rows)) (hl : len = rows.length) :
    StepK P .r ⟨dst, .fieldAddr sty x f, ty0, pos, af, g⟩ ρ H H (.c (.elo k len i (j + off))) :=
  ⟨rfl, fun H2 hsub => step_val (H := H2) fun E c w a hC h => by
    have ho := hsub _ _ ho
    have hv := h x (by simp [Op.operands])
    rw [hx] at hv
    obtain ⟨h1, b, cap, h2, h3⟩ := celo hv ho hl
    refine ⟨_, ?_, .c (.elo ho rfl (by omega) (fun _ => ⟨h1, b, cap, h2, rfl⟩))⟩
    simp only [execOp, h3, Sem.run_bind, run_fieldAt hF.h, Result.andThen_ok, Sem.run_pure, Nat.add_assoc]⟩
theorem step_load_elo (ty : TypeId) (x : Operand) {agg : Bool} {n' : Nat} [hS : Shp P ty agg n'] {k len i j : Nat} {e : TypeId} {n : Nat} {rows : List (List T)} (hx : ρ x = .c (.elo k len i j)) (ho : hget H k = some (.row e n rows)) (hl : len = rows.length) (hn : agg = false → n' = 1) (hj : j + n' ≤ (rows.getD i []).length) :
    StepK P .r ⟨dst, .load ty x, ty0, pos, af, g⟩ ρ H H (takeAV agg n' ((rows.getD i []).map .t) j) :=
  ⟨rfl, fun H2 hsub => step_val (H := H2) fun E c w a hC h => by
    have ho := hsub _ _ ho
    have hv := h x (by simp [Op.operands])
    rw [hx] at hv
    obtain ⟨h1, b, cap, h2, h3⟩ := celo hv ho hl
    obtain ⟨hpn, xs, hrow, hrr, _⟩ := hC.obj k _ ho
    obtain ⟨b', cap', cur, e1, e2, _, _, e5, e6⟩ := own_some hrow (by omega)
    rw [h2] at e1
    simp only [Value.slice.injEq, Option.some.injEq, Addr.mk.injEq] at e1
    obtain ⟨⟨rfl, _⟩, _, rfl⟩ := e1
    have hri := hrr i (by omega)
    have hcell : ∀ q, q < n' → w.cell? ⟨b, i * n + j + q, none⟩ = some (((List.range n').map fun q => xs.getD (i * n + (j + q)) undef).getD q undef) := fun q hq => by
      have hle := row_le (i := i) (n := n) (m := rows.length) (j := j + q + 1) (by omega) (by omega)
      have hlx : i * n + (j + q) < xs.length := by rw [hrow.len]; omega
      have e7 : xs.getD (i * n + (j + q)) undef = cur.toList.getD (i * n + (j + q)) undef := by
        rw [← e6]
        simp only [List.getD_eq_getElem?_getD, List.getElem?_take]
        rw [if_pos (by omega)]
      have hcur : i * n + (j + q) < cur.size := by
        have := hrow.len
        rw [← e6, List.length_take] at this
        simp at this; omega
      rw [Nat.add_assoc]
      simp only [World.cell?, e2]
      simp only [List.getD_eq_getElem?_getD, List.getElem?_map, List.getElem?_range hq, Option.map_some, Option.getD_some] at e7 ⊢
      rw [e7]
      simp [hcur]
    have hrun := run_loadVar_cells hS.h hn w b (i * n + j) ((List.range n').map fun q => xs.getD (i * n + (j + q)) undef) (by simp) hcell
    refine ⟨_, ?_, take_rep (l := (rows.getD i []).map .t) (i := j) (cs := (List.range n').map fun q => xs.getD (i * n + (j + q)) undef) (by simp) hn (by simpa using hj) (fun q hq => ?_)⟩
    · simp only [execOp, h3, Instr.loadAt, Instr.sureAddr, Sem.run_bind, Sem.run_pure, Result.andThen_ok, hrun]
    · have h4 := hri.2 (j + q) (by omega)
      have hlt : j + q < (rows.getD i []).length := by omega
      have e1 : ((rows.getD i []).map CV.t).getD (j + q) .dead = .t ((rows.getD i []).getD (j + q) default) := by
        generalize rows.getD i [] = r at hlt
        simp [List.getD_eq_getElem?_getD, List.getElem?_map, List.getElem?_eq_getElem hlt]
      rw [e1]
      have e2 : ((List.range n').map fun q => xs.getD (i * n + (j + q)) undef).getD q undef = xs.getD (i * n + (j + q)) undef := by simp [List.getD_eq_getElem?_getD, List.getElem?_map, List.getElem?_range hq]
      rw [e2]
      exact .t h4⟩
theorem splice_take {α : Type} (l : List α) (i m : Nat) (xs : List α) (h : i + xs.length ≤ m) (hm : m ≤ l.length) : (splice l i xs).take m = splice (l.take m) i xs := by
  apply List.ext_getElem?
  intro j
  have hlen : (splice l i xs).length = l.length := splice_length _ _ _ (by omega)
  have hlen2 : (splice (l.take m) i xs).length = m := by rw [splice_length _ _ _ (by simp; omega)]; simp; omega
  by_cases hj : j < m
  · rw [List.getElem?_take, if_pos hj]
    have key : ∀ (l : List α) (d : α), j < l.length → l[j]? = some (l.getD j d) := fun l d hj => by simp [List.getD_eq_getElem?_getD, List.getElem?_eq_getElem hj]
    have hl : j < l.length := by omega
    rw [key _ l[j] (by omega), key (splice (l.take m) i xs) l[j] (by omega), splice_getD _ _ _ (by omega), splice_getD _ _ _ (by simp; omega)]
    split
    · rfl
    · simp [List.getD_eq_getElem?_getD, List.getElem?_take, hj]
  · rw [List.getElem?_eq_none (by simp; omega), List.getElem?_eq_none (by omega)]
/-- a store into an own row -/
theorem step_store_elo (ty : TypeId) (x y : Operand) {agg : Bool} {n' : Nat} [hS : Shp P ty agg n'] {k len i j : Nat} {e : TypeId} {n : Nat} {rows : List (List T)} {l : List T} (hx : ρ x = .c (.elo k len i j)) (ho : hget H k = some (.row e n rows)) (hl : len = rows.length) (hy : treesAV (ρ y) = some l) (hln : l.length = n') (hj : j + n' ≤ n) :
    StepK P .w ⟨dst, .store ty x y, ty0, pos, af, g⟩ ρ H (hset H k (.row e n (rows.set i (splice (rows.getD i []) j l)))) (.tup []) := by
  intro E c a w K Q hC hxx hK
  have hv := hxx x (by simp [Op.operands])
  rw [hx] at hv
  obtain ⟨h1, b, cap, h2, h3⟩ := celo hv ho hl
  obtain ⟨hpn, xs, hrow, hrr, _⟩ := hC.obj k _ ho
  obtain ⟨b', cap', cur, e1, e2, e3, e4, e5, e6⟩ := own_some hrow (by omega)
  rw [h2] at e1
  simp only [Value.slice.injEq, Option.some.injEq, Addr.mk.injEq] at e1
  obtain ⟨⟨rfl, _⟩, _, rfl⟩ := e1
  obtain ⟨q1, q2⟩ := trees_rep (hxx y (by simp [Op.operands])) hy
  have hri := hrr i (by omega)
  have hxsl := hrow.len
  have hle := row_le (i := i) (n := n) (m := rows.length) (j := j + n') (by omega) hj
  have hone : ∀ v ∈ (a.eval y).cells.toList, v.oneCell' = true := fun v hv => by
    obtain ⟨q, hq, rfl⟩ := List.mem_iff_getElem.1 hv
    have hq' : q < l.length := by rw [← q1]; simpa using hq
    have := (q2 q hq').one
    simpa [List.getD_eq_getElem?_getD, List.getElem?_eq_getElem hq] using this
  have hvl : (a.eval y).cells.toList.length = n' := by simp [q1, hln]
  have hcurl : rows.length * n ≤ cur.toList.length := by
    have := congrArg List.length e6
    rw [List.length_take, hxsl] at this
    omega
  have hfit : i * n + j + (a.eval y).cells.toList.length ≤ cur.toList.length := by rw [hvl]; omega
  have hrun := run_storeCells_at (P := P) b (i * n + j) e (a.eval y).cells.toList 0 cur w e2 (by simpa using hfit) hone
  have hexec : (execOp a.eval ⟨dst, .store ty x y, ty0, pos, af, g⟩).run P w = .ok .skip (w.setRow b (splice cur.toList (i * n + j) (a.eval y).cells.toList).toArray) := by
    simp only [execOp, h3, Instr.storeAt, Instr.sureAddr, storeVar, Sem.run_bind, Sem.run_pure, Result.andThen_ok, Shp.size hS.h]
    rw [if_neg (by simp; omega)]
    rw [hrun]
    simp [splice, Result.andThen]
  unfold Oper.wp
  rw [hexec]
  have hset' : (w.setRow b (splice cur.toList (i * n + j) (a.eval y).cells.toList).toArray).heap[b]? = some (.cells (splice cur.toList (i * n + j) (a.eval y).cells.toList).toArray e (0, 0)) := setRow_heap w b cur _ e _ e2
  have hkb : blk (c.m k) = some b := by rw [h2]; exact blk_some (by omega)
  have hnA := (hC.obj k _ ho).noA hkb
  have hother : ∀ q, q ≠ b → (w.setRow b (splice cur.toList (i * n + j) (a.eval y).cells.toList).toArray).heap[q]? = w.heap[q]? := fun q hq => setRow_other w b q _ hq
  have hsz : (w.setRow b (splice cur.toList (i * n + j) (a.eval y).cells.toList).toArray).heap.size = w.heap.size := by simp
  have hcell : ∀ b' q v, c.A b' q → w.cell? ⟨b', q, none⟩ = some v → c.A b' q ∧ (w.setRow b (splice cur.toList (i * n + j) (a.eval y).cells.toList).toArray).cell? ⟨b', q, none⟩ = some v := fun b' q v g1 g2 => by
    have hne : b' ≠ b := fun e => hnA q (e ▸ g1)
    exact ⟨g1, by rw [World.cell?_of_block (w := w) (a := ⟨b', q, none⟩) (hother b' hne)]; exact g2⟩
  have hslen : (rows.set i (splice (rows.getD i []) j l)).length = rows.length := by simp
  have hlat : Later c H w c (hset H k (.row e n (rows.set i (splice (rows.getD i []) j l)))) (w.setRow b (splice cur.toList (i * n + j) (a.eval y).cells.toList).toArray) := by
    refine ⟨fun q t cl h => ?_, fun q t n2 rows2 h => ?_, fun q t n2 rows2 h => ?_, hcell⟩
    · by_cases e' : k = q
      · subst e'; rw [ho] at h; cases h
      · exact ⟨cl, by rw [hget_hset, if_neg e']; exact h, rfl⟩
    · by_cases e' : k = q
      · subst e'; rw [ho] at h; injection h with h; injection h with a1 a2 a3; subst a1; subst a2; subst a3
        exact ⟨_, by rw [hget_hset, if_pos rfl], .inl ⟨hslen, rfl⟩⟩
      · exact ⟨rows2, by rw [hget_hset, if_neg e']; exact h, .inl ⟨rfl, rfl⟩⟩
    · by_cases e' : k = q
      · subst e'; rw [ho] at h; cases h
      · exact ⟨rows2, by rw [hget_hset, if_neg e']; exact h, .inl ⟨rfl, rfl⟩⟩
  refine hK undef c _ ⟨fun q o h => ?_, fun q q' b' g1 g2 => hC.inj q q' b' ?_ ?_, fun b' q h => by rw [hsz]; exact hC.lt b' q h, hC.ent, hC.le, hC.new, fun q b' h hb' => hC.own q b' ?_ hb', fun b' g1 g2 => ?_, hC.os, hC.tape, hC.output, by rw [hsz]; exact hC.size, hC.pin.step hlat⟩ hlat (.tup [] [] rfl (fun i hi => absurd hi (Nat.not_lt_zero _)))
  · rw [hget_hset] at h
    by_cases e' : k = q
    · rw [if_pos e'] at h; injection h with h; subst h; subst e'
      refine ⟨hpn, splice xs (i * n + j) (a.eval y).cells.toList, Owns.of (b := 0) ⟨?_, .inr ⟨b, cap, _, by rw [hslen, h2, hl], Nat.zero_le _, hset', by rw [hslen]; exact e3, e4, ?_, ?_⟩⟩, fun q hq => ?_, fun b' hb' q => (hC.obj k _ ho).noA hb' q⟩
      · rw [splice_length _ _ _ (by rw [hvl, hxsl]; omega), hslen]; exact hxsl
      · simp only [List.size_toArray]
        rw [splice_length _ _ _ hfit]; simpa using e5
      · rw [hslen]
        simp only
        rw [splice_take _ _ _ _ (by rw [hvl]; omega) hcurl, e6]
      · rw [hslen] at hq
        by_cases e8 : i = q
        · subst e8
          have e9 : (rows.set i (splice (rows.getD i []) j l)).getD i [] = splice (rows.getD i []) j l := by simp [List.getD_eq_getElem?_getD, hq]
          rw [e9]
          have hsl : j + l.length ≤ (rows.getD i []).length := by rw [hri.1, hln]; exact hj
          refine ⟨by rw [splice_length _ _ _ hsl]; exact hri.1, fun r hr => ?_⟩
          rw [splice_getD _ _ _ (by rw [hvl, hxsl]; omega), splice_getD _ _ _ hsl, hvl, hln]
          by_cases h9 : j ≤ r ∧ r < j + n'
          · rw [if_pos (by omega), if_pos h9]
            have e10 : i * n + r - (i * n + j) = r - j := by omega
            rw [e10]
            exact (q2 _ (by omega)).mono hcell
          · rw [if_neg (by omega), if_neg h9]
            exact (hri.2 r hr).mono hcell
        · have e9 : (rows.set i (splice (rows.getD i []) j l)).getD q [] = rows.getD q [] := by simp [List.getD_eq_getElem?_getD, List.getElem?_set_ne e8]
          rw [e9]
          refine ⟨(hrr q hq).1, fun r hr => ?_⟩
          have hne : ¬ (i * n + j ≤ q * n + r ∧ q * n + r < i * n + j + n') := by
            rintro ⟨z1, z2⟩
            rcases Nat.lt_or_gt_of_ne e8 with h9 | h9
            · have := row_le (i := i) (n := n) (m := q) (j := j + n') h9 hj; omega
            · have := row_le (i := q) (n := n) (m := i) (j := r + 1) h9 hr; omega
          rw [splice_getD _ _ _ (by rw [hvl, hxsl]; omega), hvl, if_neg hne]
          exact ((hrr q hq).2 r hr).mono hcell
    · rw [if_neg e'] at h
      have h0 := hC.obj q o h
      refine h0.later hlat rfl (fun b' hb' => hother b' (fun e2 => ?_)) (fun b' q hb' => h0.noA hb' q)
      subst e2
      exact e' (hC.inj k q b' (by rw [ho]; simp) (by rw [h]; simp) hkb hb')
  · rw [hget_hset] at g1; split at g1
    · rename_i e'; subst e'; rw [ho]; simp
    · exact g1
  · rw [hget_hset] at g2; split at g2
    · rename_i e'; subst e'; rw [ho]; simp
    · exact g2
  · rw [hget_hset] at h; split at h
    · rename_i e'; subst e'; rw [ho]; simp
    · exact h
  · have hne : b' ≠ b := by
      rintro rfl
      rcases hC.own k b' (by rw [ho]; simp) hkb with h | h
      · exact g2 h
      · omega
    rw [hother b' hne]; exact hC.keep b' g1 g2
/-- append to what has no room: a copy -/
theorem step_copy (x y : Operand) (ty : TypeId) {e : TypeId} {n bytes : Nat} [hS : Sli P ty e n bytes] {more : List (List T)} (hx : Coe (ρ x) (.c .z)) (hy : Coe (ρ y) (.c (.t (.s more)))) (hn : ∀ i, i < more.length → (more.getD i []).length = n) (hmax : more.length ≤ 1000000000) (hbytes : bytes ≤ 1000) :
    StepK P .p ⟨dst, .call { callee := .builtin .append, args := #[x, y], argTypes := #[ty, ty] }, ty0, pos, af, g⟩ ρ H H (.c (.t (.s more))) :=
  ⟨rfl, fun H2 E c a w K Q hC hxx hK => by
    have hF := sli_facts hS.h
    obtain ⟨inf, z, hinf, hz, hsz, hby, hzs⟩ := hF.i
    have hpn := hF.pos
    have hxv := hx _ _ _ _ (hxx x (by simp [Op.operands, Call.operands]))
    have hyv := hy _ _ _ _ (hxx y (by simp [Op.operands, Call.operands]))
    generalize ex : a.eval x = xv at hxv
    generalize ey : a.eval y = yv at hyv
    have fin : ∀ v w', (Builtin.append_ #[ty, ty] ty0 #[xv, yv]).run P w = .ok v w' → ∀ c', Conc E c' H2 w' → Later c H2 w c' H2 w' → VRep c' H2 w' v (.c (.t (.s more))) → Oper.wp P ⟨dst, .call { callee := .builtin .append, args := #[x, y], argTypes := #[ty, ty] }, ty0, pos, af, g⟩ a w K Q := by
      intro v w' hr c' h1 h2 h3
      unfold Oper.wp execOp
      simp only [resolve, invoke, builtin, Sem.run_bind, Sem.run_pure, Result.andThen_ok, List.map_toArray, List.map_cons, List.map_nil, ex, ey, hr]
      exact hK v c' w' h1 h2 h3
    cases hxv with
    | c hxv => cases hxv with
      | z ad =>
        have h00 : ∀ (src : Value), (∀ w' : World, (Builtin.lenOf src).run P w' = .ok 0 w') → (Builtin.firstCells inf.size 0 src).run P w = .ok #[] w → (Builtin.append_ #[ty, ty] ty0 #[.slice ad 0 0, src]).run P w = .ok (.slice ad 0 0) w := fun src h1 h2 => by
          cases ad <;> simp [Builtin.append_, run_underlying hF.u, Go.sizeOf, typeInfo, hinf, h1, h2, storeCells]
        cases hyv with
        | c hyv => cases hyv with
          | t hyv =>
            cases hyv with
            | e ad2 cap =>
              exact fin _ _ (h00 _ (fun w' => rfl) (by cases ad2 <;> simp [Builtin.firstCells, loadCells, loadCellsFrom])) c hC (Later.refl _ _ _) (.c (.t (.e ad 0)))
            | s b off cap n' _ vs g1 g2 gn gc gr =>
              by_cases h0 : more.length = 0
              · have hm : more = [] := List.length_eq_zero_iff.1 h0
                subst hm
                exact fin _ _ (h00 _ (fun w' => rfl) (by simp [Builtin.firstCells, loadCells, loadCellsFrom])) c hC (Later.refl _ _ _) (.c (.t (.e ad 0)))
              · have hnn : n' = n := by rw [← gn 0 (by omega)]; exact hn 0 (by omega)
                subst hnn
                have hnews : ∀ j u, (((List.range more.length).map fun i => (List.range n').map fun j => vs i j).flatten)[j]? = some u → w.cell? ((⟨b, off, none⟩ : Addr).add j) = some u := fun j u hu => by
                  have hj : j < more.length * n' := by
                    rw [← flat_length (n := n') vs]
                    rcases Nat.lt_or_ge j (((List.range more.length).map fun i => (List.range n').map fun j => vs i j).flatten).length with h | h
                    · exact h
                    · rw [List.getElem?_eq_none h] at hu; cases hu
                  have hi : j / n' < more.length := Nat.div_lt_of_lt_mul (by rw [Nat.mul_comm]; exact hj)
                  have hq : j % n' < n' := Nat.mod_lt _ hpn
                  have e1 : j / n' * n' + j % n' = j := by rw [Nat.mul_comm]; exact Nat.div_add_mod j n'
                  have e2 := flat_getD (n := n') vs more.length (j / n') (j % n') hi hq
                  rw [e1, List.getD_eq_getElem?_getD, hu] at e2
                  simp only [Option.getD_some] at e2
                  rw [add_plain, ← e1, ← Nat.add_assoc, (gc _ _ hi hq).2, e2]
                have hone : ∀ u ∈ (((List.range more.length).map fun i => (List.range n').map fun j => vs i j).flatten), u.oneCell' = true := fun u hu => by
                  obtain ⟨l, hl1, hl2⟩ := List.mem_flatten.1 hu
                  obtain ⟨i, hi, rfl⟩ := List.mem_map.1 hl1
                  obtain ⟨j, hj, rfl⟩ := List.mem_map.1 hl2
                  exact (gr i j (by simpa using hi) (by simpa using hj)).one
                have hs : Src P inf.size ty (.slice (some ⟨b, off, none⟩) more.length cap) more.length (((List.range more.length).map fun i => (List.range n').map fun j => vs i j).flatten) w := Src.ofSlice w hF.u _ _ _ _ (by rw [hsz]; exact flat_length vs _) hnews hone
                have hf : (Builtin.firstCells inf.size 0 (.slice ad 0 0)).run P w.drew = .ok ([] : List Value).toArray w.drew := by
                  cases ad with
                  | none => exact run_firstCells_none w.drew _ _ _ _
                  | some ad' => exact run_firstCells_some w.drew _ _ ad' _ _ [] (by simp) (by simp)
                have hnc : Builtin.nextslicecap (0 + more.length) 0 = 0 + more.length := by unfold Builtin.nextslicecap; rw [if_pos (by omega)]
                have hfit : Builtin.nextslicecap (0 + more.length) 0 * inf.bytes ≤ 281474976710656 := by
                  rw [hnc, hby, Nat.zero_add]
                  exact Nat.le_trans (Nat.mul_le_mul hmax hbytes) (by decide)
                have hrun := run_append_grow_src (P := P) w ty ty ty0 e inf z hF.u hinf hz ad 0 0 [] hf _ more.length _ hs (by omega) (by omega) hfit
                have hge := grownCap_ge w (0 + more.length) 0 e
                have hle := grownCap_le_maxLen w (0 + more.length) 0 e (by unfold maxLen; omega)
                rw [Nat.zero_add] at hge hle hrun
                generalize hCC : ((([] : List Value) ++ (((List.range more.length).map fun i => (List.range n').map fun j => vs i j).flatten)).toArray ++ Builtin.zeroCells z.cells (grownCap w more.length 0 e - more.length)) = CC at hrun
                have hg : Grew w (w.drew.alloc (.cells CC e)) := Grew.of_below (((Below.refl _ _).drew).alloc (Nat.le_refl _) _)
                obtain ⟨k1, k2⟩ := hC.grew hg (fun b i => c.A b i ∨ (b = w.heap.size)) (fun b i h => .inl h) (fun b i h => h.imp id (fun e => ⟨Nat.le_of_eq e.symm, by rw [e]; simp⟩))
                refine fin _ _ hrun _ k1 k2 (.c (.t ?_))
                refine .s w.heap.size 0 _ n' more (fun i j => vs i j) hge hle gn (fun i j hi hj => ⟨.inr rfl, ?_⟩) (fun i j hi hj => (gr i j hi hj).mono k2.cell)
                have hlt : i * n' + j < more.length * n' := by
                  have := row_le (i := i) (n := n') (m := more.length) (j := j + 1) hi hj
                  omega
                have e2 := flat_getD (n := n') vs more.length i j hi hj
                rw [Nat.zero_add, show (w.drew.alloc (.cells CC e)).cell? ⟨w.heap.size, i * n' + j, none⟩ = CC[i * n' + j]? from World.cell?_alloc_at (w := w.drew) CC e w.heap.size (i * n' + j) rfl, ← hCC, List.nil_append]
                rw [Array.getElem?_append_left (by simp only [List.size_toArray]; rw [flat_length]; exact hlt)]
                rw [List.getD_eq_getElem?_getD] at e2
                rw [List.getElem?_toArray]
                rcases h9 : (((List.range more.length).map fun i => (List.range n').map fun j => vs i j).flatten)[i * n' + j]? with _ | u
                · rw [List.getElem?_eq_none_iff, flat_length] at h9; omega
                · rw [h9] at e2; simp only [Option.getD_some] at e2; rw [e2]⟩
/-- the same, where it will grow further -/
theorem step_copy_own (k : Nat) (x y : Operand) (ty : TypeId) {e : TypeId} {n bytes : Nat} [hS : Sli P ty e n bytes] {more : List (List T)} (hk : hget H k = none) (hx : Coe (ρ x) (.c .z)) (hy : Coe (ρ y) (.c (.t (.s more)))) (hn : ∀ i, i < more.length → (more.getD i []).length = n) (hmax : more.length ≤ 1000000000) (hbytes : bytes ≤ 1000) :
    StepK P .w ⟨dst, .call { callee := .builtin .append, args := #[x, y], argTypes := #[ty, ty] }, ty0, pos, af, g⟩ ρ H (hset H k (.row e n more)) (.c (.own k more.length)) := by
  intro E c a w K Q hC hxx hK
  have hF := sli_facts hS.h
  obtain ⟨inf, z, hinf, hz, hsz, hby, hzs⟩ := hF.i
  have hpn := hF.pos
  have hxv := hx _ _ _ _ (hxx x (by simp [Op.operands, Call.operands]))
  have hyv := hy _ _ _ _ (hxx y (by simp [Op.operands, Call.operands]))
  generalize ex : a.eval x = xv at hxv
  generalize ey : a.eval y = yv at hyv
  cases hxv with
  | c hxv => cases hxv with
    | z az =>
      have hnil : more = [] → (∀ cap2 ad2, yv = .slice ad2 0 cap2 → Oper.wp P ⟨dst, .call { callee := .builtin .append, args := #[x, y], argTypes := #[ty, ty] }, ty0, pos, af, g⟩ a w K Q) := fun hm cap2 ad2 hval => by
        subst hm
        have hrun : (Builtin.append_ #[ty, ty] ty0 #[.slice az 0 0, .slice ad2 0 cap2]).run P w = .ok (.slice az 0 0) w := by
          cases az <;> cases ad2 <;> simp [Builtin.append_, run_underlying hF.u, Go.sizeOf, typeInfo, hinf, Builtin.lenOf, Builtin.firstCells, loadCells, loadCellsFrom, storeCells]
        obtain ⟨k1, k2, k3⟩ := hC.adopt k hk e n hpn az
        unfold Oper.wp execOp
        simp only [resolve, invoke, builtin, Sem.run_bind, Sem.run_pure, Result.andThen_ok, List.map_toArray, List.map_cons, List.map_nil, ex, ey, hval, hrun]
        exact hK _ _ _ k1 k2 (.c k3)
      cases hyv with
      | c hyv => cases hyv with
        | t hyv =>
          cases hyv with
          | e ad cap => exact hnil rfl cap ad rfl
          | s b off cap n' rows' vs g1 g2 gn gc gr =>
            by_cases h0 : more.length = 0
            · have hm : more = [] := List.length_eq_zero_iff.1 h0
              exact hnil hm cap (some ⟨b, off, none⟩) (by rw [h0])
            · have hnn : n' = n := by rw [← gn 0 (by omega)]; exact hn 0 (by omega)
              subst hnn
              obtain ⟨CC, cp, z1, z2, z3, z4, z5⟩ := zgrow (P := P) (ty0 := ty0) w az ty hF.u hinf hz hsz hby hzs hpn hmax hbytes (by omega) vs gc (fun i j hi hj => (gr i j hi hj).one) (cap := cap)
              obtain ⟨hC2, hl2⟩ := hC.drew (w' := w.drew) rfl rfl rfl rfl
              obtain ⟨c', k1, k2, k3⟩ := hC2.bornRow k e n' hpn more (by omega) (.inl hk) CC cp z2 z3 z4 gn vs z5 (fun i j hi hj => (gr i j hi hj).mono hl2.cell)
              unfold Oper.wp execOp
              simp only [resolve, invoke, builtin, Sem.run_bind, Sem.run_pure, Result.andThen_ok, List.map_toArray, List.map_cons, List.map_nil, ex, ey, z1]
              exact hK _ c' _ k1 (hl2.trans k2) (.c k3)
/-- s[:0:0] -/
theorem step_cut0 (ty : TypeId) (x y z : Operand) {e : TypeId} {n bytes : Nat} [hS : Sli P ty e n bytes] {rows : List (List T)} {k1 k2 : IntKind} (hx : Coe (ρ x) (.c (.t (.s rows)))) (hy : ρ y = .c (.t (.v (.int k1 0)))) (hz : ρ z = .c (.t (.v (.int k2 0)))) : StepK P .p ⟨dst, .slice ty x none (some y) (some z), ty0, pos, af, g⟩ ρ H H (.c .z) :=
  stepP_val fun H E c w a _ hop => by
    have hF := sli_facts hS.h
    obtain ⟨inf, zv, hinf, hzv, hsz, hby, hzs⟩ := hF.i
    have hv := hx _ _ _ _ (hop x (by simp [Op.operands]))
    have ey := exAV_eq (hy ▸ hop y (by simp [Op.operands])) (y := .int k1 0) rfl
    have ez := exAV_eq (hz ▸ hop z (by simp [Op.operands])) (y := .int k2 0) rfl
    have hsize : (sizeOf e).run P w = .ok n w := by simp [Go.sizeOf, typeInfo, hinf, hsz]
    have key : ∀ (ad : Option Addr) (len cap : Nat), a.eval x = .slice ad len cap → (execOp a.eval ⟨dst, .slice ty x none (some y) (some z), ty0, pos, af, g⟩).run P w = .ok (.value (.slice ad 0 0)) w := fun ad len cap hval => by
      have hb : ∀ (kd : IntKind) (q : Nat) (cd : BoundsCode), (Instr.sliceBound (.int kd 0) q cd).run P w = .ok 0 w := fun kd q cd => by simp [Instr.sliceBound, asIntOf]
      simp only [execOp, Instr.sliceAt, Sem.run_bind, run_underlying hF.u, Result.andThen_ok, hval, Instr.slice, Instr.sliceBounds, Option.map_none, Option.map_some, Sem.run_pure, hsize, if_true, ey, ez, hb]
    generalize hval : a.eval x = val at hv
    cases hv with
    | c hv => cases hv with
      | t hv =>
        cases hv with
        | e ad cap => exact ⟨_, key ad 0 cap hval, .c (.z ad)⟩
        | s b off cap n' _ vs g1 g2 gn gc gr => exact ⟨_, key _ _ cap hval, .c (.z _)⟩
/-- s[l:h] -/
theorem step_cut (ty : TypeId) (x : Operand) (lo hi : Option Operand) {e : TypeId} {n bytes : Nat} [hS : Sli P ty e n bytes] {rows : List (List T)} (l h : Nat) (hx : ρ x = .c (.t (.s rows))) (hl : match lo with | some y => ∃ kd, ρ y = .c (.t (.v (.int kd l))) | none => l = 0) (hh : match hi with | some y => ∃ kd, ρ y = .c (.t (.v (.int kd h))) | none => h = rows.length)
    (h1 : l ≤ h) (h2 : h ≤ rows.length) (hn : ∀ i, i < rows.length → (rows.getD i []).length = n) : StepK P .p ⟨dst, .slice ty x lo hi none, ty0, pos, af, g⟩ ρ H H (.c (.t (.s ((rows.take h).drop l)))) :=
  stepP_val fun H E c w a _ hop => by
    have hF := sli_facts hS.h
    obtain ⟨inf, z, hinf, hz, hsz, hby, hzs⟩ := hF.i
    have hpn := hF.pos
    have hv := hop x (by simp [Op.operands])
    rw [hx] at hv
    have hlen : ((rows.take h).drop l).length = h - l := by simp; omega
    have key : ∀ (ad : Option Addr) (cap : Nat), rows.length ≤ cap → a.eval x = .slice ad rows.length cap → (execOp a.eval ⟨dst, .slice ty x lo hi none, ty0, pos, af, g⟩).run P w = .ok (.value (.slice (if cap = l then ad else ad.map (·.add (l * n))) (h - l) (cap - l))) w := by
      intro ad cap hcap hval
      have hhb : ∀ kd, (Instr.sliceBound (.int kd h) cap .sliceAcap).run P w = .ok h w := fun kd => by
        simp [Instr.sliceBound, asIntOf]; omega
      have hlb : ∀ kd, (Instr.sliceBound (.int kd l) h .sliceB).run P w = .ok l w := fun kd => by
        simp [Instr.sliceBound, asIntOf]; omega
      have hsize : (sizeOf e).run P w = .ok n w := by simp [Go.sizeOf, typeInfo, hinf, hsz]
      cases lo with
      | none =>
        simp only at hl
        subst hl
        cases hi with
        | none =>
          simp only at hh
          subst hh
          simp only [execOp, Instr.sliceAt, Sem.run_bind, run_underlying hF.u, Result.andThen_ok, hval, Instr.slice, Instr.sliceBounds, Option.map_none, Sem.run_pure, hsize, if_true]
        | some y =>
          obtain ⟨kd, hy⟩ := hh
          have ey := exAV_eq (hy ▸ hop y (by simp [Op.operands])) (y := .int kd h) rfl
          simp only [execOp, Instr.sliceAt, Sem.run_bind, run_underlying hF.u, Result.andThen_ok, hval, Instr.slice, Instr.sliceBounds, Option.map_none, Option.map_some, Sem.run_pure, hsize, if_true, ey, hhb]
      | some yl =>
        obtain ⟨kl, hyl⟩ := hl
        have eyl := exAV_eq (hyl ▸ hop yl (by simp [Op.operands])) (y := .int kl l) rfl
        cases hi with
        | none =>
          simp only at hh
          subst hh
          simp only [execOp, Instr.sliceAt, Sem.run_bind, run_underlying hF.u, Result.andThen_ok, hval, Instr.slice, Instr.sliceBounds, Option.map_none, Option.map_some, Sem.run_pure, hsize, eyl, Option.isSome_none, Bool.false_eq_true, if_false, hlb]
        | some y =>
          obtain ⟨kd, hy⟩ := hh
          have ey := exAV_eq (hy ▸ hop y (by simp [Op.operands])) (y := .int kd h) rfl
          simp only [execOp, Instr.sliceAt, Sem.run_bind, run_underlying hF.u, Result.andThen_ok, hval, Instr.slice, Instr.sliceBounds, Option.map_none, Option.map_some, Sem.run_pure, hsize, if_true, ey, eyl, Option.isSome_none, Bool.false_eq_true, if_false, hhb, hlb]
    generalize hval : a.eval x = val at hv
    cases hv with
    | c hv => cases hv with
      | t hv =>
        cases hv with
        | e ad cap =>
          have h0 : h = 0 := by simpa using h2
          have hl0 : l = 0 := by omega
          subst h0; subst hl0
          exact ⟨_, key ad cap (Nat.zero_le _) hval, .c (.t (.e _ _))⟩
        | s b off cap n' _ vs g1 g2 gn gc gr =>
          refine ⟨_, key _ cap g1 hval, .c (.t ?_)⟩
          by_cases h0 : h - l = 0
          · have e0 : (rows.take h).drop l = [] := List.length_eq_zero_iff.1 (by omega)
            rw [e0, h0]
            exact .e _ _
          · have hnn : n' = n := by rw [← gn l (by omega)]; exact hn l (by omega)
            subst hnn
            rw [if_neg (by omega)]
            simp only [Option.map_some, add_plain]
            rw [← hlen]
            have hget : ∀ i, i < h - l → ((rows.take h).drop l).getD i [] = rows.getD (l + i) [] := fun i hi => by
              simp only [List.getD_eq_getElem?_getD, List.getElem?_drop, List.getElem?_take]
              rw [if_pos (by omega)]
            refine .s b (off + l * n') (cap - l) n' _ (fun i j => vs (l + i) j) (by omega) (by omega) (fun i hi => by rw [hget i (by omega)]; exact gn _ (by omega)) (fun i j hi hj => ?_) (fun i j hi hj => by rw [hget i (by omega)]; exact gr _ _ (by omega) hj)
            have := gc (l + i) j (by omega) hj
            rw [Nat.add_mul, ← Nat.add_assoc] at this
            exact this
end
end Go.Proofs.YtoebfmhogkjmgaaGreatDoor.Fx
