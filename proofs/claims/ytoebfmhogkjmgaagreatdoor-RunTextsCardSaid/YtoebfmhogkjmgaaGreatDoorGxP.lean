/- Pointers seen otherwise, and strings out of bytes without a copy: what strings.Builder does. No program in sight. -/
import Derived.Test.YtoebfmhogkjmgaaGreatDoorGxF
import Derived.Lib.UnsafeStr
namespace Go.Proofs.YtoebfmhogkjmgaaGreatDoor.Gx
open Go.RowKit
open Fx (splice splice_getD splice_length shapeB add_plain sliB SliF sli_facts)
set_option linter.unusedVariables false
set_option linter.unusedSimpArgs false
theorem rowAt_mono (p : Program) (fits : TypeId → Bool) {d : Nat} {e : TypeId} {c c' off n : Nat} (hc : c ≤ c') (h : rowAt p fits d e c off n = true) : rowAt p fits d e c' off n = true := by
  cases d with
  | zero => unfold rowAt at h; cases h
  | succ d =>
    unfold rowAt at h ⊢
    simp only at h ⊢
    split at h
    · cases h
    · rename_i hs
      rw [if_neg hs]
      rw [Bool.or_eq_true] at h ⊢
      rcases h with h | h
      · left
        simp only [Bool.and_eq_true, decide_eq_true_eq] at h ⊢
        exact ⟨⟨h.1.1, by omega⟩, h.2⟩
      · right
        rw [Bool.and_eq_true] at h ⊢
        exact ⟨decide_eq_true (Nat.lt_of_lt_of_le (of_decide_eq_true h.1) hc), h.2⟩
theorem liesAt_mono (p : Program) : ∀ (d : Nat) {e : TypeId} {c c' off : Nat} {u : TypeId} {n : Nat}, c ≤ c' → liesAt p d e c off u n = true → liesAt p d e c' off u n = true := by
  intro d
  induction d with
  | zero => intro e c c' off u n _ h; unfold liesAt at h; cases h
  | succ d ih =>
    intro e c c' off u n hc h
    unfold liesAt at h ⊢
    rw [Bool.or_eq_true] at h ⊢
    rcases h with h | h
    · exact .inl (rowAt_mono p _ hc h)
    · right
      split at h
      · exact ih hc h
      · cases h
/-- a block that is looked at no more, whatever was done to it -/
theorem Conc.lose {w0 w w' : World} {m : GM} {H : GH} (hC : Conc w0 m H w) {k b base size : Nat} {ty : TypeId} {cells : List GC} {ver : Nat} (hk : H k = some (.cells ty cells ver)) (hm : m k = some (b, base, size)) (ver' : Nat)
    (hh : ∀ j, j ≠ b → w'.heap[j]? = w.heap[j]?) (hsz : w'.heap.size = w.heap.size) (h1 : w'.os = w.os) (h2 : w'.tape = w.tape) (h3 : w'.output = w.output) : Conc w0 m (up H k (.gone ver')) w' := by
  have hlive : ∀ j, Live (up H k (.gone ver')) j → j ≠ k ∧ Live H j := fun j hj => by
    have e : j ≠ k := fun e => by
      subst e
      rcases hj with ⟨t, cl, v, hj⟩ | ⟨es, v, hj⟩ <;> (rw [up_same] at hj; injection hj with hj; cases hj)
    exact ⟨e, live_up hj e⟩
  refine ⟨fun j t cl v hj => ?_, fun j es v hj => ?_, fun j r hj => ?_, fun j j' r r' g1 g2 e1 e2 e3 => hC.inj j j' r r' (hlive j g1).2 (hlive j' g2).2 e1 e2 e3, hC.new, hC.zero, fun c hc => ?_, h1.trans hC.os, h2.trans hC.tape, h3.trans hC.output, by rw [hsz]; exact hC.size⟩
  · obtain ⟨e, _⟩ := hlive j (.inl ⟨_, _, _, hj⟩)
    rw [up_other _ _ e] at hj
    obtain ⟨b', base', size', cc, g1, g2, g3, g4, g5⟩ := hC.obj j t cl v hj
    have hne : b' ≠ b := fun e2 => e (hC.inj j k _ _ (.inl ⟨_, _, _, hj⟩) (.inl ⟨_, _, _, hk⟩) g1 hm e2)
    exact ⟨b', base', size', cc, g1, by rw [hh b' hne]; exact g2, g3, g4, g5⟩
  · obtain ⟨e, _⟩ := hlive j (.inr ⟨_, _, hj⟩)
    rw [up_other _ _ e] at hj
    refine (hC.objm j es v hj).mono (Ext.refl m) (fun b' en cl g => ?_)
    obtain ⟨b2, base2, size2, cc, g1, g2, _⟩ := hC.obj k _ _ _ hk
    rw [hm] at g1; injection g1 with g1; injection g1 with q1 _
    subst q1
    have hne : b' ≠ b := fun e2 => by subst e2; rw [g] at g2; cases g2
    rw [hh b' hne]; exact g
  · by_cases e : j = k
    · subst e; rw [up_same]; simp
    · rw [up_other _ _ e]; exact hC.dom j r hj
  · have hne : c ≠ b := fun e => by
      have := hC.new k _ hm
      simp only at this; omega
    rw [hh c hne]; exact hC.keep c hc
section
variable {P : Program} {ρ : Operand → GA} {dst : Option Tmp} {ty0 : TypeId} {pos : String} {af : Array Edge} {g : Option (Nat × Bool)}
theorem shape_at {w0 : World} {m : GM} {H : GH} {w : World} (hC : Conc w0 m H w) {k : Nat} {ty : TypeId} {cells : List GC} {ver : Nat} (hk : H k = some (.cells ty cells ver)) {b base size : Nat} (hm : m k = some (b, base, size)) : base = 0 ∧ ∃ cs : Array Value, w.heap[b]? = some (.cells cs ty (0, 0)) ∧ w.shape? b = some (ty, cs.size) ∧ cells.length ≤ cs.size := by
  have hz := hC.zero k _ hm
  obtain ⟨b', base', size', cs, g1, g2, g3, g4, g5⟩ := hC.obj k _ _ _ hk
  rw [hm] at g1; injection g1 with g1; injection g1 with q1 g1; injection g1 with q2 q3
  subst q1; subst q2; subst q3
  exact ⟨hz, cs, g2, by simp [World.shape?, g2], by omega⟩
theorem seen_run {w : World} {b off : Nat} {ty : TypeId} {n : Nat} (hs : w.shape? b = some (ty, n)) : (Conv.seenAt ⟨b, off, none⟩).run P w = .ok ⟨b, off, none⟩ w := by
  have hv : (viewAt b).run P w = .ok none w := by simp [viewAt, shape, Sem.run, hs]
  unfold Conv.seenAt
  simp only [Sem.run_bind, hv, Result.andThen_ok, Sem.run_pure]
theorem out_ok (src dst' : TypeId) (x : Operand) {t : TypeId} {inf : TypeInfo} (hs : P.underlying src = some (.pointer t)) (hd : P.underlying dst' = some .unsafePointer) (hi : P.info? t = some inf) (hz : inf.size ≠ 0) {k i : Nat} {vt : TypeId} {cells : List GC} {ver : Nat} {H : GH} (hx : ρ x = .c (.p k i)) (ho : H k = some (.cells vt cells ver)) (hk : i < cells.length) :
    Step P ⟨dst, .convert src dst' x, ty0, pos, af, g⟩ ρ H H (.c (.p k i)) := step_val fun w0 m w a hC h => by
  obtain ⟨b, base, size, hm, ex⟩ := rep_p (hx ▸ h x (by simp [Op.operands]))
  obtain ⟨hb, cs, g1, g2, g3⟩ := shape_at hC ho hm
  subst hb
  refine ⟨.pointer (some ⟨b, 0 + i, none⟩), ?_, .c (.p hm)⟩
  have hse := seen_run (P := P) (off := 0 + i) g2
  have hcell : (cellsIn b).run P w = .ok (some cs.size) w := by simp [cellsIn, shape, Sem.run, g2]
  have hsize : (sizeOf t).run P w = .ok inf.size w := by simp [Go.sizeOf, typeInfo, hi]
  have hno : (decide (0 + i ≥ cs.size) && (none : Option Nat).isNone) = false := by simp; omega
  simp only [execOp, ex, convert, Sem.run_bind, run_underlying hs, run_underlying hd, Result.andThen_ok, Conv.unsafePointer, hse, hcell, hsize, hno]
  simp [hz]
theorem in_ok (src dst' : TypeId) (x : Operand) {u : TypeId} {inf : TypeInfo} (hs : P.underlying src = some .unsafePointer) (hd : P.underlying dst' = some (.pointer u)) (hi : P.info? u = some inf) {k i : Nat} {vt : TypeId} {cells : List GC} {ver : Nat} {H : GH} (hx : ρ x = .c (.p k i)) (ho : H k = some (.cells vt cells ver)) (hl : liesAt P P.depth vt (cells.length / P.cellsOf vt) i u 1 = true) :
    Step P ⟨dst, .convert src dst' x, ty0, pos, af, g⟩ ρ H H (.c (.p k i)) := step_val fun w0 m w a hC h => by
  obtain ⟨b, base, size, hm, ex⟩ := rep_p (hx ▸ h x (by simp [Op.operands]))
  obtain ⟨hb, cs, g1, g2, g3⟩ := shape_at hC ho hm
  subst hb
  refine ⟨.pointer (some ⟨b, 0 + i, none⟩), ?_, .c (.p hm)⟩
  have hse := seen_run (P := P) (off := 0 + i) g2
  have hsize : (sizeOf u).run P w = .ok inf.size w := by simp [Go.sizeOf, typeInfo, hi]
  have hlie : liesAt P P.depth vt (cs.size / P.cellsOf vt) (0 + i) u 1 = true := by rw [Nat.zero_add]; exact liesAt_mono P _ (Nat.div_le_div_right g3) hl
  have hvar : (variablesAt ⟨b, 0 + i, none⟩ u 1).run P w = .ok true w := by
    simp only [variablesAt, Go.program, shape, Sem.run_bind, Sem.run, g2, Result.andThen_ok, hlie]
    rfl
  simp only [execOp, ex, convert, Sem.run_bind, run_underlying hs, run_underlying hd, Result.andThen_ok, Conv.unsafePointer, hse, hsize, hvar]
  simp
theorem next_none : Extern.allNextRows.lookup "internal/abi.NoEscape" = none := by kernel_rfl
theorem gen_none : Extern.allGenericRows.lookup "internal/abi.NoEscape" = none := by kernel_rfl
theorem typed_none : Extern.allTypedRows.lookup "internal/abi.NoEscape" = none := by kernel_rfl
theorem row_same : Extern.allRows.lookup "internal/abi.NoEscape" = some Extern.AbiNoEscape.same := by kernel_rfl
def noEsc (P : Program) (f : FuncId) : Bool :=
  match P.funcs[f]? with
  | some fn => fn.body.isNone && fn.name == "internal/abi.NoEscape" && fn.origin == ""
  | none => false
theorem next_none0 : Extern.allNextRows.lookup "" = none := by kernel_rfl
theorem noEsc_run {f : FuncId} (h : noEsc P f = true) (v : Value) (w : World) : (callFunc f #[v]).run P w = .ok (.value v) w := by
  unfold noEsc at h
  split at h
  · rename_i fn hf
    simp only [Bool.and_eq_true, beq_iff_eq] at h
    obtain ⟨⟨h1, h2⟩, h3⟩ := h
    have e1 : Extern.findNext fn = none := by simp [Extern.findNext, h2, h3, next_none, next_none0]
    have e2 : Extern.find fn = some Extern.AbiNoEscape.same := by simp [Extern.find, h2, gen_none, typed_none, row_same]
    have hne : (fn.name == "runtime.NumGoroutine") = false := by rw [h2]; rfl
    have e3 : Extern.AbiNoEscape.same #[v] = pure v := rfl
    have h1 : fn.body = none := by simpa using h1
    simp [callFunc, Go.program, Sem.run, hf, h2, h1, e1, e2, mark, e3]
  · cases h
theorem esc_ok (fo x : Operand) (ats : Array TypeId) {f : FuncId} (hf : ρ fo = .c (.fn (.func f) [] [])) (hn : noEsc P f = true) (H : GH) : Step P ⟨dst, .call { callee := .value fo, args := #[x], argTypes := ats }, ty0, pos, af, g⟩ ρ H H (ρ x) := step_val fun w0 m w a hC h => by
  have ef := gv_eq (hf ▸ h fo (by simp [Op.operands, Call.operands])) (y := .func (.func f) #[] #[]) rfl
  refine ⟨a.eval x, ?_, h x (by simp [Op.operands, Call.operands])⟩
  have := noEsc_run hn (a.eval x) w
  simp only [execOp, resolve, ef, Deferred.ofValue, Sem.run_bind, Sem.run_pure, Result.andThen_ok, invoke]
  simpa using this
theorem eqp_ok {op : BinOp} {ty ty2 : TypeId} {x y : Operand} {e : TypeId} {inf : TypeInfo} (hu : P.underlying ty = some (.pointer e)) (hi : P.info? e = some inf) (hz : inf.size ≠ 0) {k i j : Nat} (hx : ρ x = .c (.p k i)) (hy : ρ y = .c (.p k j)) {b : Bool} (hb : (op = .eql ∧ b = (i == j)) ∨ (op = .neq ∧ b = !(i == j))) (H2 : GH) : Step P ⟨dst, .binOp op ty x y ty2, ty0, pos, af, g⟩ ρ H2 H2 (.c (.v (.bool b))) := step_val fun w0 m w a _ hh => by
  obtain ⟨bb, base, size, hm, ex⟩ := rep_p (hx ▸ hh x (by simp [Op.operands]))
  obtain ⟨bb', base', size', hm', ey⟩ := rep_p (hy ▸ hh y (by simp [Op.operands]))
  rw [hm] at hm'; injection hm' with hm'; injection hm' with q1 hm'; injection hm' with q2 q3
  subst q1; subst q2; subst q3
  refine ⟨.bool b, ?_, .c (.v _ rfl)⟩
  have hsize : (sizeOf e).run P w = .ok inf.size w := by simp [Go.sizeOf, typeInfo, hi]
  have heq : (Op.equal ty (.pointer (some ⟨bb, base + i, none⟩)) (.pointer (some ⟨bb, base + j, none⟩))).run P w = .ok (i == j) w := by
    show (Op.equalIn (9999 + 1) ty _ _).run P w = _
    unfold Op.equalIn
    simp only [Sem.run_bind, run_underlying hu, Result.andThen_ok, hsize, if_pos hz, sameAddr, beq_self_eq_true, if_true, Sem.run_pure]
    congr 1
    by_cases hij : i = j
    · subst hij; simp
    · have : ¬ ((⟨bb, base + i, none⟩ : Addr) = ⟨bb, base + j, none⟩) := fun e => by injection e with _ e; omega
      rw [beq_eq_false_iff_ne.2 this, beq_eq_false_iff_ne.2 hij]
  rcases hb with ⟨rfl, rfl⟩ | ⟨rfl, rfl⟩ <;> simp only [execOp, ex, ey, eqGuard, binOp, Sem.run_bind, Sem.run_pure, Result.andThen_ok, heq]
  all_goals simp [heq]
theorem data_ok (x : Operand) (ats : Array TypeId) {k off len cap n : Nat} {ex : Bool} (hx : ρ x = .c (.sl k off len cap n ex)) (hc : 0 < cap) (H : GH) : Step P ⟨dst, .call { callee := .builtin .unsafeSliceData, args := #[x], argTypes := ats }, ty0, pos, af, g⟩ ρ H H (.c (.p k off)) := step_val fun w0 m w a _ h => by
  obtain ⟨b, base, size, c, hm, es, q1, _⟩ := rep_sl (hx ▸ h x (by simp [Op.operands, Call.operands]))
  have hne : c ≠ 0 := by omega
  have hrun := Lib.run_unsafeSliceData_row (P := P) w ats ty0 ⟨b, base + off, none⟩ len c hne
  refine ⟨.pointer (some ⟨b, base + off, none⟩), ?_, .c (.p hm)⟩
  simp only [execOp, resolve, invoke, builtin, List.map_toArray, List.map_cons, List.map_nil, es, Sem.run_bind, Sem.run_pure, Result.andThen_ok, hrun]
theorem str_ok (x y : Operand) {pt it : TypeId} {e : TypeId} (hu : P.underlying pt = some (.pointer e)) (hce : P.cellsOf e = 1) {k n : Nat} {cells : List GC} {ver : Nat} {H : GH} (hx : ρ x = .c (.p k 0)) (hy : ρ y = .c (.v (.int .i64 n))) (ho : H k = some (.cells e cells ver)) (h0 : 0 < n) (hm : n ≤ 1000000000) (hk : n ≤ cells.length) {l : List Nat} (hl : u8s (cells.take n) = some l) (ver' : Nat) :
    Step P ⟨dst, .call { callee := .builtin .unsafeString, args := #[x, y], argTypes := #[pt, it] }, ty0, pos, af, g⟩ ρ H (up H k (.gone ver')) (.c (.s l)) := step_new fun w0 m w a hC h => by
  obtain ⟨b, base, size, hmk, ex⟩ := rep_p (hx ▸ h x (by simp [Op.operands, Call.operands]))
  have ey := rep_int (hy ▸ h y (by simp [Op.operands, Call.operands]))
  obtain ⟨hb, cs, g1, g2, g3⟩ := shape_at hC ho hmk
  subst hb
  obtain ⟨h1, h2⟩ := u8s_spec _ l hl
  have hlen : l.length = n := by
    have := congrArg List.length h1
    simp at this; omega
  have hcell : ∀ j x, (l.map UInt8.ofNat)[j]? = some x → w.cell? ((⟨b, 0, none⟩ : Addr).add j) = some (.int .u8 x.toNat) := fun j v hv => by
    have hj : j < l.length := by simpa using (List.getElem?_eq_some_iff.1 hv).1
    obtain ⟨y, g1, g2⟩ := obj_cell hC ho hmk (i := j) (by omega)
    have e1 : cells.getD j default = GC.v (.int .u8 ((l[j] : Nat) : Int)) := by
      have := congrArg (fun q => q.getD j default) h1
      simpa [List.getD_eq_getElem?_getD, List.getElem?_take, List.getElem?_map, List.getElem?_eq_getElem hj, show j < n by omega] using this
    rw [e1] at g2
    have ey := gvC_eq g2 (y := .int .u8 ((l[j] : Nat) : Int)) rfl
    have e2 : UInt8.ofNat l[j] = v := by
      rw [List.getElem?_map, List.getElem?_eq_getElem hj] at hv
      exact Option.some.inj hv
    have h3 := h2 l[j] (List.getElem_mem hj)
    rw [add_plain, g1, ey, ← e2]
    simp [UInt8.toNat_ofNat, Nat.mod_eq_of_lt h3]
  have hrun := Lib.run_unsafeString_row (P := P) w pt it ty0 e hu hce b cs.size g2 (l.map UInt8.ofNat) (by
    intro e0
    have := congrArg List.length e0
    simp at this
    rw [this] at hlen; simp at hlen; omega) (by simp; omega) (by simp; omega) hcell
  rw [List.length_map, hlen] at hrun
  have hn0 : ¬ n = 0 := by omega
  refine ⟨.string (bytesOf l), m, w.freeze ⟨b, 0, none⟩ n, ?_, ?_, Ext.refl _, .c (.s l h2)⟩
  · simp only [execOp, resolve, invoke, builtin, List.map_toArray, List.map_cons, List.map_nil, ex, ey, Nat.add_zero, Sem.run_bind, Sem.run_pure, Result.andThen_ok, hrun]
    rfl
  · unfold World.freeze
    rw [if_neg hn0]
    refine hC.lose ho hmk ver' (fun j hj => ?_) (by simp) rfl rfl rfl
    simp only [Array.getElem?_modify]
    rw [if_neg (fun e => hj e.symm)]
/-- a slice's part, its room cut -/
theorem cut3_ok (ty : TypeId) (x y z : Operand) {e : TypeId} {n bytes : Nat} (hS : sliB P ty e n bytes = true) {k off len cap : Nat} {ex : Bool} (i j : Nat) {k1 k2 : IntKind} (hx : ρ x = .c (.sl k off len cap n ex)) (hy : ρ y = .c (.v (.int k1 i))) (hz : ρ z = .c (.v (.int k2 j))) (h1 : i ≤ j) (h2 : j ≤ cap) (H : GH) :
    Step P ⟨dst, .slice ty x none (some y) (some z), ty0, pos, af, g⟩ ρ H H (.c (.sl k off i j n true)) := step_val fun w0 m w a _ h => by
  have hF := sli_facts hS
  obtain ⟨inf, zv, hinf, hz', hsz, hby, hzs⟩ := hF.i
  obtain ⟨b, base, size, c, hm, e', q1, q2, q3, q4, q5, q6⟩ := rep_sl (hx ▸ h x (by simp [Op.operands]))
  have ey := rep_int (hy ▸ h y (by simp [Op.operands]))
  have ez := rep_int (hz ▸ h z (by simp [Op.operands]))
  have hsize : (sizeOf e).run P w = .ok n w := by simp [Go.sizeOf, typeInfo, hinf, hsz]
  have hmul : j * n ≤ c * n := Nat.mul_le_mul_right _ (by omega)
  refine ⟨.slice (some ⟨b, base + off, none⟩) i j, ?_, .c (.sl hm (Nat.le_refl _) (fun _ => rfl) (by omega) h1 q5 (by omega))⟩
  have hadd : (if j = 0 then (some (⟨b, base + off, none⟩ : Addr)) else some ((⟨b, base + off, none⟩ : Addr).add (0 * n))) = some ⟨b, base + off, none⟩ := by
    split <;> simp [add_plain]
  simp only [execOp, e', ey, ez, Option.map_none, Option.map_some, Instr.sliceAt, Instr.slice, Instr.sliceBounds, Instr.sliceBound, asIntOf, Sem.run_bind, run_underlying hF.u, Result.andThen_ok, Sem.run_pure, hsize]
  rw [if_pos ⟨by omega, by omega⟩]
  simp only [Sem.run_bind, Result.andThen_ok, Option.map_some, Sem.run_pure, hsize, Int.toNat_natCast]
  rw [if_pos ⟨by omega, by omega⟩]
  simp only [Sem.run_bind, Result.andThen_ok, Option.map_some, Sem.run_pure, hsize, Int.toNat_natCast, Nat.sub_zero]
  rw [hadd]
/-- integers -/
def kEq (a b : IntKind) : Bool := match a, b with
  | .i64, .i64 => true
  | .u8, .u8 => true
  | a, b => decide (a = b)
theorem kEq_ok {a b : IntKind} (h : kEq a b = true) : a = b := by
  unfold kEq at h
  split at h
  · rfl
  · rfl
  · exact of_decide_eq_true h
def iEq : Int → Int → Bool
  | .ofNat a, .ofNat b => Nat.beq a b
  | .negSucc a, .negSucc b => Nat.beq a b
  | _, _ => false
theorem iEq_eq (a b : Int) : iEq a b = (a == b) := by
  unfold iEq
  split
  · rename_i a b
    cases h : Nat.beq a b
    · have := Nat.ne_of_beq_eq_false h
      symm; simp; omega
    · have := Nat.eq_of_beq_eq_true h
      subst this; simp
  · rename_i a b
    cases h : Nat.beq a b
    · have := Nat.ne_of_beq_eq_false h
      symm; simp; omega
    · have := Nat.eq_of_beq_eq_true h
      subst this; simp
  · rename_i h1 h2
    symm
    cases a <;> cases b <;> first | (exact (h1 _ _ rfl rfl).elim) | (exact (h2 _ _ rfl rfl).elim) | (simp; done)
def iLt : Int → Int → Bool
  | .ofNat a, .ofNat b => Nat.blt a b
  | .negSucc a, .negSucc b => Nat.blt b a
  | .negSucc _, .ofNat _ => true
  | .ofNat _, .negSucc _ => false
theorem iLt_eq (a b : Int) : iLt a b = decide (a < b) := by
  unfold iLt
  split
  · rename_i a b
    by_cases h : a < b
    · rw [blt_iff.2 h, decide_eq_true (by simpa using h)]
    · rw [decide_eq_false (by simpa using h)]
      cases hb : Nat.blt a b
      · rfl
      · exact absurd (blt_iff.1 hb) h
  · rename_i a b
    by_cases h : b < a
    · rw [blt_iff.2 h, decide_eq_true (by omega)]
    · rw [decide_eq_false (by omega)]
      cases hb : Nat.blt b a
      · rfl
      · exact absurd (blt_iff.1 hb) h
  · rename_i a b; symm; exact decide_eq_true (by simp only [Int.ofNat_eq_natCast]; omega)
  · rename_i a b; symm; exact decide_eq_false (by simp only [Int.ofNat_eq_natCast]; omega)
def wrapF (k : IntKind) (n : Int) : Int := bif !(iLt n k.min) && !(iLt k.max n) then n else k.wrap n
theorem wrapF_eq (k : IntKind) (n : Int) : wrapF k n = k.wrap n := by
  unfold wrapF
  cases h1 : iLt n k.min
  · cases h2 : iLt k.max n
    · rw [iLt_eq] at h1 h2
      have g1 := of_decide_eq_false h1
      have g2 := of_decide_eq_false h2
      exact (Fx.wrap_inK ⟨Int.not_lt.1 g1, Int.not_lt.1 g2⟩).symm
    · rfl
  · rfl
def intG (op : BinOp) (k : IntKind) (a b : Int) : Option Value :=
  match op with
  | .add => some (.int k (wrapF k (a + b)))
  | .sub => some (.int k (wrapF k (a - b)))
  | .mul => some (.int k (wrapF k (a * b)))
  | .eql => some (.bool (iEq a b))
  | .neq => some (.bool (!iEq a b))
  | .lss => some (.bool (iLt a b))
  | .leq => some (.bool (!iLt b a))
  | .gtr => some (.bool (iLt b a))
  | .geq => some (.bool (!iLt a b))
  | _ => none
theorem int_ok {op : BinOp} {ty ty2 : TypeId} {x y : Operand} {k : IntKind} {a' b' : Int} (hx : ρ x = .c (.v (.int k a'))) (hy : ρ y = .c (.v (.int k b'))) {v : Value} (h : intG op k a' b' = some v) (H2 : GH) : Step P ⟨dst, .binOp op ty x y ty2, ty0, pos, af, g⟩ ρ H2 H2 (.c (.v v)) := step_val fun w0 m w a _ hh => by
  have ex := rep_int (hx ▸ hh x (by simp [Op.operands]))
  have ey := rep_int (hy ▸ hh y (by simp [Op.operands]))
  have hlt : ∀ a b : Int, (!iLt b a) = decide (a ≤ b) := fun a b => by
    rw [iLt_eq]
    by_cases h : b < a
    · rw [decide_eq_true h, decide_eq_false (by omega)]; rfl
    · rw [decide_eq_false h, decide_eq_true (by omega)]; rfl
  have hdd : ∀ a b : Int, decide (a ≤ b) = !decide (b < a) := fun a b => by
    by_cases h : b < a
    · rw [decide_eq_true h, decide_eq_false (by omega)]; rfl
    · rw [decide_eq_false h, decide_eq_true (by omega)]; rfl
  unfold intG at h
  split at h <;> first | (cases h; done) | (injection h with h; subst h; refine ⟨_, ?_, .c (.v _ rfl)⟩; simp only [execOp, ex, ey, eqGuard, Sem.run_bind, Sem.run_pure, Result.andThen_ok]; first | (simp [binOp, Op.intArith, Op.intCmp, wrapF_eq, iEq_eq, iLt_eq, hlt]; done) | (simp [binOp, Op.intCmp, iLt_eq]; exact hdd _ _) | (simp [binOp, Op.intCmp]; rw [iEq_eq]; rfl))
def iconv (P : Program) (src dst : TypeId) (n : Int) : Option Value :=
  match P.underlying src, P.underlying dst with
  | some _, some (.int k) => some (.int k (wrapF k n))
  | _, _ => none
theorem iconv_ok (src dst' : TypeId) (x : Operand) {k : IntKind} {n : Int} (hx : ρ x = .c (.v (.int k n))) {v : Value} (h : iconv P src dst' n = some v) (H2 : GH) : Step P ⟨dst, .convert src dst' x, ty0, pos, af, g⟩ ρ H2 H2 (.c (.v v)) := step_val fun w0 m w a _ hh => by
  have ex := rep_int (hx ▸ hh x (by simp [Op.operands]))
  unfold iconv at h
  split at h
  · rename_i d k' h1 h2
    injection h with h; subst h
    refine ⟨_, ?_, .c (.v _ rfl)⟩
    simp [execOp, ex, convert, run_underlying h1, run_underlying h2, Conv.intToInt, wrapF_eq]
  · cases h
theorem not_ok (ty : TypeId) (x : Operand) {b : Bool} (hx : ρ x = .c (.v (.bool b))) (H2 : GH) : Step P ⟨dst, .unOp .not ty x, ty0, pos, af, g⟩ ρ H2 H2 (.c (.v (.bool (!b)))) := step_val fun w0 m w a _ hh => by
  have ex := gv_eq (hx ▸ hh x (by simp [Op.operands])) (y := .bool b) rfl
  exact ⟨.bool (!b), by simp [execOp, ex, Op.unary], .c (.v _ rfl)⟩
end
end Go.Proofs.YtoebfmhogkjmgaaGreatDoor.Gx
