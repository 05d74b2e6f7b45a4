/- Maps of strings, MakeNoZero, copies of nothing. No program in sight. -/
import Derived.Test.YtoebfmhogkjmgaaGreatDoorGxP
import Derived.MapKept
import Derived.Lib.MakeNoZero
namespace Go.Proofs.YtoebfmhogkjmgaaGreatDoor.Gx
open Go.RowKit
set_option linter.unusedVariables false
set_option linter.unusedSimpArgs false
def sEq : List Nat → List Nat → Bool
  | [], [] => true
  | a :: t, b :: u => (Nat.beq a b) && sEq t u
  | _, _ => false
theorem sEq_spec : ∀ (a b : List Nat), sEq a b = decide (a = b) := by
  intro a
  induction a with
  | nil => intro b; cases b <;> simp [sEq]
  | cons x t ih =>
    intro b
    cases b with
    | nil => simp [sEq]
    | cons y u =>
      unfold sEq
      rw [ih u]
      have e : Nat.beq x y = decide (x = y) := by
        cases h : Nat.beq x y
        · have := Nat.ne_of_beq_eq_false h; simp [this]
        · have := Nat.eq_of_beq_eq_true h; simp [this]
      rw [e]
      by_cases h1 : x = y <;> by_cases h2 : t = u <;> simp [h1, h2]
theorem map_u8_inj : ∀ (a b : List Nat), (∀ x ∈ a, x < 256) → (∀ x ∈ b, x < 256) → (a.map UInt8.ofNat = b.map UInt8.ofNat ↔ a = b) := by
  intro a
  induction a with
  | nil => intro b _ _; cases b <;> simp
  | cons x t ih =>
    intro b ha hb
    cases b with
    | nil => simp
    | cons y u =>
      simp only [List.map_cons, List.cons.injEq]
      rw [ih u (fun z hz => ha z (List.mem_cons_of_mem _ hz)) (fun z hz => hb z (List.mem_cons_of_mem _ hz))]
      have hx := ha x List.mem_cons_self
      have hy := hb y List.mem_cons_self
      constructor
      · rintro ⟨e, h⟩
        refine ⟨?_, h⟩
        have := congrArg UInt8.toNat e
        simpa [UInt8.toNat_ofNat, Nat.mod_eq_of_lt hx, Nat.mod_eq_of_lt hy] using this
      · rintro ⟨rfl, h⟩; exact ⟨rfl, h⟩
theorem bytesOf_inj {a b : List Nat} (ha : ∀ x ∈ a, x < 256) (hb : ∀ x ∈ b, x < 256) (h : bytesOf a = bytesOf b) : a = b := by
  refine (map_u8_inj a b ha hb).1 ?_
  have e : (bytesOf a).data.toList = (bytesOf b).data.toList := by rw [h]
  simpa [bytesOf] using e
theorem s_lt {m : GM} {v : Value} {l : List Nat} (h : VRep m v (.c (.s l))) : ∀ b ∈ l, b < 256 := by
  cases h with
  | c h => cases h with
    | s l h => exact h
/-- where a key stands -/
def mpFind (l : List Nat) : List (List Nat × GC) → Nat → Option (Nat × GC)
  | [], _ => none
  | e :: t, i => bif sEq l e.1 then some (i, e.2) else mpFind l t (i + 1)
def EntRep (m : GM) (en : List MapEntry) (es : List (List Nat × GC)) : Prop := en.length = es.length ∧ ∀ j, j < es.length → (en.getD j default).key = .string (bytesOf (es.getD j default).1) ∧ (∀ c ∈ (es.getD j default).1, c < 256) ∧ CRep m (en.getD j default).val (es.getD j default).2
theorem mpFind_spec {m : GM} {l : List Nat} (hl : ∀ b ∈ l, b < 256) : ∀ (es : List (List Nat × GC)) (en : List MapEntry) (i : Nat), EntRep m en es →
    (mpFind l es i = none → Instr.findNow .string (.string (bytesOf l)) en i = some none) ∧ ∀ j x, mpFind l es i = some (j, x) → ∃ v, Instr.findNow .string (.string (bytesOf l)) en i = some (some (j, v)) ∧ CRep m v x := by
  intro es
  induction es with
  | nil =>
    intro en i h
    have : en = [] := List.length_eq_zero_iff.1 (by simpa using h.1)
    subst this
    exact ⟨fun _ => rfl, fun j x h => (by cases h)⟩
  | cons e t ih =>
    intro en i h
    cases en with
    | nil => exact absurd h.1 (by simp)
    | cons f u =>
      have h0 := h.2 0 (by simp)
      simp only [List.getD_cons_zero] at h0
      obtain ⟨h1, h2, h3⟩ := h0
      have ht : EntRep m u t := ⟨by simpa using h.1, fun j hj => by simpa using h.2 (j + 1) (by simpa using hj)⟩
      obtain ⟨i1, i2⟩ := ih u (i + 1) ht
      have hs : Instr.sameNow .string (.string (bytesOf l)) f.key = some (sEq l e.1) := by
        rw [h1]
        show some (bytesOf l == bytesOf e.1) = _
        congr 1
        rw [sEq_spec]
        by_cases q : l = e.1
        · rw [decide_eq_true q, q]; exact (MapKept.bytes_beq _ _).2 rfl
        · rw [decide_eq_false q]
          cases hb : (bytesOf l == bytesOf e.1) with
          | false => rfl
          | true => exact absurd (bytesOf_inj hl h2 ((MapKept.bytes_beq _ _).1 hb)) q
      unfold mpFind Instr.findNow
      rw [hs]
      cases hq : sEq l e.1 with
      | true =>
        simp only [cond_true]
        refine ⟨fun h => (by cases h), fun j x hx => ?_⟩
        injection hx with hx; injection hx with q1 q2; subst q1; subst q2
        exact ⟨f.val, rfl, h3⟩
      | false =>
        simp only [cond_false]
        exact ⟨i1, i2⟩
def zeroM (P : Program) (t : TypeId) : Option Value :=
  match P.info? t with
  | some inf => inf.zero
  | none => none
theorem zeroM_run {P : Program} {t : TypeId} {z : Value} (h : zeroM P t = some z) (w : World) : (zeroValue t).run P w = .ok z w := by
  unfold zeroM at h
  split at h
  · rename_i inf hi
    simp [zeroValue, typeInfo, hi, h]
  · cases h
/-- a map of strings: what its elements are -/
def mapS (P : Program) (t : TypeId) : Option TypeId :=
  match P.underlying t with
  | some (.map k e) => (match P.underlying k with | some .string => some e | _ => none)
  | _ => none
theorem mapS_ok {P : Program} {t e : TypeId} (h : mapS P t = some e) : ∃ k, P.underlying t = some (.map k e) ∧ P.underlying k = some .string := by
  unfold mapS at h
  split at h
  · rename_i k e' hu
    split at h
    · rename_i hk; injection h with h; subst h; exact ⟨k, hu, hk⟩
    · cases h
  · cases h
theorem rep_m {m : GM} {v : Value} {k : Nat} (h : VRep m v (.c (.m k))) : ∃ b, m k = some (b, 0, 0) ∧ v = .map (some b) := by
  cases h with
  | c h => cases h with
    | m h => exact ⟨_, h, rfl⟩
section
variable {P : Program} {ρ : Operand → GA} {dst : Option Tmp} {ty0 : TypeId} {pos : String} {af : Array Edge} {g : Option (Nat × Bool)}
theorem makeMap_ok (k : Nat) (ty : TypeId) {ver : Nat} {H : GH} (hk : H k = none) : Step P ⟨dst, .makeMap ty none, ty0, pos, af, g⟩ ρ H (up H k (.mp [] ver)) (.c (.m k)) := step_new fun w0 m w a hC h => by
  obtain ⟨g1, g2⟩ := hC.allocM hk ver
  refine ⟨.map (some w.heap.size), _, _, ?_, g1, g2, .c (.m (up_same _ _ _))⟩
  simp [execOp, Instr.makeMap]
theorem map_at {w0 w : World} {m : GM} {H : GH} (hC : Conc w0 m H w) {k : Nat} {es : List (List Nat × GC)} {ver : Nat} (ho : H k = some (.mp es ver)) {b : Nat} (hm : m k = some (b, 0, 0)) : ∃ en clock, w.heap[b]? = some (.map en clock) ∧ EntRep m en.toList es := by
  obtain ⟨b', en, cl, g1, g2, g3, g4⟩ := hC.objm k es ver ho
  rw [hm] at g1; injection g1 with g1; injection g1 with q1 _
  subst q1
  refine ⟨en, cl, g2, by simpa using g3, fun j hj => ?_⟩
  have := g4 j hj
  have e : en.toList.getD j default = en.getD j default := by simp [List.getD_eq_getElem?_getD, Array.getD_eq_getD_getElem?]
  rw [e]; exact this
theorem lookup_ok (ty : TypeId) (x ix : Operand) {e : TypeId} {z : Value} (ht : mapS P ty = some e) (hz : zeroM P e = some z) {k : Nat} {es : List (List Nat × GC)} {ver : Nat} {l : List Nat} {H : GH} (hx : ρ x = .c (.m k)) (ho : H k = some (.mp es ver)) (hi : ρ ix = .c (.s l)) :
    Step P ⟨dst, .lookup ty x ix true, ty0, pos, af, g⟩ ρ H H (match mpFind l es 0 with | some (_, y) => .tup [.c y, .c (.v (.bool true))] | none => .tup [constG z, .c (.v (.bool false))]) := step_val fun w0 m w a hC h => by
  obtain ⟨kt, hu, hk⟩ := mapS_ok ht
  obtain ⟨b, hm, ex⟩ := rep_m (hx ▸ h x (by simp [Op.operands]))
  have hs := h ix (by simp [Op.operands])
  rw [hi] at hs
  have hl := s_lt hs
  have ei := gv_eq hs (y := .string (bytesOf l)) rfl
  obtain ⟨en, cl, g1, g2⟩ := map_at hC ho hm
  obtain ⟨f1, f2⟩ := mpFind_spec hl es en.toList 0 g2
  have hc := fun em => MapKept.run_checkKey (P := P) (w := w) (k := .string (bytesOf l)) hk trivial em 9999
  have hgo := MapKept.run_getObj_map (P := P) g1
  have hzr := zeroM_run hz w
  have two : ∀ (v : Value) (y : GA) (bo : Bool), VRep m v y → VRep m (.tuple #[v, .bool bo]) (.tup [y, .c (.v (.bool bo))]) := fun v y bo hv => by
    refine .tup [v, .bool bo] [y, .c (.v (.bool bo))] rfl (fun i hi => ?_)
    match i, hi with
    | 0, _ => exact hv
    | 1, _ => exact .c (.v _ rfl)
  cases hf : mpFind l es 0 with
  | none =>
    have := MapKept.run_findKey (P := P) (w := w) hk (f1 hf)
    refine ⟨.tuple #[z, .bool false], ?_, two _ _ _ (constG_rep m z)⟩
    simp only [execOp, Instr.lookup, ex, ei, Sem.run_bind, run_underlying hu, Result.andThen_ok, hgo, hc, this, hzr, Sem.run_pure, if_true]
  | some r =>
    obtain ⟨j, y⟩ := r
    obtain ⟨v, hv1, hv2⟩ := f2 j y hf
    have := MapKept.run_findKey (P := P) (w := w) hk hv1
    refine ⟨.tuple #[v, .bool true], ?_, two _ _ _ (.c hv2)⟩
    simp only [execOp, Instr.lookup, ex, ei, Sem.run_bind, run_underlying hu, Result.andThen_ok, hgo, hc, this, Sem.run_pure, if_true]
theorem put_ok (ty : TypeId) (x ix y : Operand) {e : TypeId} (ht : mapS P ty = some e) {k : Nat} {es : List (List Nat × GC)} {ver ver' : Nat} {l : List Nat} {c : GC} {H : GH} (hx : ρ x = .c (.m k)) (ho : H k = some (.mp es ver)) (hi : ρ ix = .c (.s l)) (hy : ρ y = .c c) (hn : mpFind l es 0 = none) :
    Step P ⟨dst, .mapUpdate ty x ix y, ty0, pos, af, g⟩ ρ H (up H k (.mp (es ++ [(l, c)]) ver')) (.tup []) := step_skip fun w0 m w a hC h => by
  obtain ⟨kt, hu, hk⟩ := mapS_ok ht
  obtain ⟨b, hm, ex⟩ := rep_m (hx ▸ h x (by simp [Op.operands]))
  have hs := h ix (by simp [Op.operands])
  rw [hi] at hs
  have hl := s_lt hs
  have ei := gv_eq hs (y := .string (bytesOf l)) rfl
  have hv := h y (by simp [Op.operands])
  rw [hy] at hv
  obtain ⟨en, cl, g1, g2⟩ := map_at hC ho hm
  obtain ⟨f1, _⟩ := mpFind_spec hl es en.toList 0 g2
  have hc := fun em => MapKept.run_checkKey (P := P) (w := w) (k := .string (bytesOf l)) hk trivial em 9999
  have hgo := MapKept.run_getObj_map (P := P) g1
  have hfi := MapKept.run_findKey (P := P) (w := w) hk (f1 hn)
  have hse := MapKept.run_setObj_map (P := P) (.map (en.push { key := .string (bytesOf l), val := a.eval y, born := cl }) (cl + 1)) g1
  obtain ⟨q1, q2⟩ := MapKept.heap_set (o' := .map (en.push { key := .string (bytesOf l), val := a.eval y, born := cl }) (cl + 1)) g1
  refine ⟨m, _, ?_, hC.writeM (ver' := ver') (es' := es ++ [(l, c)]) ho hm (en.push { key := .string (bytesOf l), val := a.eval y, born := cl }) (cl + 1) (w' := { w with heap := w.heap.setIfInBounds b (.map (en.push { key := .string (bytesOf l), val := a.eval y, born := cl }) (cl + 1)) }) (fun j hj => q2 j hj) q1 (by simp) rfl rfl rfl (by have := g2.1; simp at this ⊢; omega) (fun i hi => ?_), Ext.refl m⟩
  · simp only [execOp, Instr.mapUpdate, ex, ei, Sem.run_bind, run_underlying hu, Result.andThen_ok, hgo, hc, hfi, hse, Sem.run_pure]
  · have hlen := g2.1
    simp only [Array.length_toList] at hlen
    by_cases hq : i < es.length
    · have := g2.2 i hq
      have e1 : (en.push { key := .string (bytesOf l), val := a.eval y, born := cl }).getD i default = en.toList.getD i default := by
        simp [List.getD_eq_getElem?_getD, Array.getD_eq_getD_getElem?, Array.getElem?_push, show ¬ i = en.size by omega]
      have e2 : (es ++ [(l, c)]).getD i default = es.getD i default := by
        simp only [List.getD_eq_getElem?_getD]; rw [List.getElem?_append_left hq]
      rw [e1, e2]; exact this
    · have hie : i = es.length := by simp at hi; omega
      subst hie
      have e1 : (en.push { key := .string (bytesOf l), val := a.eval y, born := cl }).getD es.length default = { key := .string (bytesOf l), val := a.eval y, born := cl } := by
        rw [Array.getD_eq_getD_getElem?, ← hlen]; simp
      have e2 : (es ++ [(l, c)]).getD es.length default = (l, c) := by
        simp [List.getD_eq_getElem?_getD]
      rw [e1, e2]
      refine ⟨rfl, hl, ?_⟩
      generalize a.eval y = q at hv
      cases hv with
      | c hv => exact hv
theorem mnz_next : Extern.allNextRows.lookup "internal/bytealg.MakeNoZero" = none := by kernel_rfl
theorem mnz_gen : Extern.allGenericRows.lookup "internal/bytealg.MakeNoZero" = none := by kernel_rfl
theorem mnz_row : Extern.allTypedRows.lookup "internal/bytealg.MakeNoZero" = some Extern.BytealgMakeNoZero.makeNoZero := by kernel_rfl
def isMnz (P : Program) (f : FuncId) : Option TypeId :=
  match P.funcs[f]? with
  | some fn => bif fn.body.isNone && fn.name == "internal/bytealg.MakeNoZero" && fn.origin == "" then (match fn.resultTypes with
    | ⟨[t]⟩ => (match P.underlying t with | some (.slice e) => some e | _ => none)
    | _ => none) else none
  | none => none
theorem mnz_run {f : FuncId} {e : TypeId} (h : isMnz P f = some e) {n : Nat} (hn : n ≤ 1000000) (w : World) : ∃ cs : Array Value, (callFunc f #[.int .i64 n]).run P w = .ok (.value (.slice (some ⟨w.heap.size, 0, none⟩) n cs.size)) (w.drew.drew.alloc (.cells cs e)) ∧ n ≤ cs.size ∧ cs.size ≤ maxLen := by
  unfold isMnz at h
  split at h
  · rename_i fn hf
    cases hb : (fn.body.isNone && fn.name == "internal/bytealg.MakeNoZero" && fn.origin == "") with
    | false => rw [hb] at h; cases h
    | true =>
      rw [hb, cond_true] at h
      simp only [Bool.and_eq_true, beq_iff_eq] at hb
      obtain ⟨⟨h1, h2⟩, h3⟩ := hb
      split at h
      · rename_i t ht
        split at h
        · rename_i e' hu
          injection h with h; subst h
          obtain ⟨cs, r1, r2, r3⟩ := Lib.run_makeNoZero (P := P) w fn.params t e' hu n (by omega)
          have e1 : Extern.findNext fn = none := by simp [Extern.findNext, h2, h3, mnz_next, next_none0]
          have e2 : Extern.find fn = some (Extern.BytealgMakeNoZero.makeNoZero fn.params #[t]) := by simp [Extern.find, h2, mnz_gen, mnz_row, ht]
          have h1 : fn.body = none := by simpa using h1
          refine ⟨cs, ?_, r2, r3 (by simp [maxLen]; omega)⟩
          simp [callFunc, Go.program, Sem.run, hf, h2, h1, e1, e2, mark, r1]
        · cases h
      · cases h
  · cases h
theorem mnz_ok (k : Nat) (fo x : Operand) (ats : Array TypeId) {f : FuncId} {e : TypeId} {n : Nat} (hf : ρ fo = .c (.fn (.func f) [] [])) (hm : isMnz P f = some e) (hx : ρ x = .c (.v (.int .i64 n))) (hn : n ≤ 1000000) {ver : Nat} {H : GH} (hk : H k = none) :
    Step P ⟨dst, .call { callee := .value fo, args := #[x], argTypes := ats }, ty0, pos, af, g⟩ ρ H (up H k (.cells e [] ver)) (.c (.sl k 0 n n 1 false)) := step_new fun w0 m w a hC h => by
  have ef := gv_eq (hf ▸ h fo (by simp [Op.operands, Call.operands])) (y := .func (.func f) #[] #[]) rfl
  have ex := gv_eq (hx ▸ h x (by simp [Op.operands, Call.operands])) (y := .int .i64 n) rfl
  obtain ⟨cs, r1, r2, r3⟩ := mnz_run hm hn w
  have hC2 : Conc w0 m H w.drew.drew := (hC.drew rfl rfl rfl rfl).drew rfl rfl rfl rfl
  obtain ⟨g1, g2⟩ := hC2.alloc hk e cs [] ver (Nat.zero_le _) (fun i hi => absurd hi (Nat.not_lt_zero _))
  refine ⟨.slice (some ⟨w.heap.size, 0 + 0, none⟩) n cs.size, _, _, ?_, g1, g2, .c (.sl (up_same _ _ _) r2 (fun h => by cases h) (by omega) (Nat.le_refl _) (by omega) r3)⟩
  simp only [execOp, resolve, ef, Deferred.ofValue, Sem.run_bind, Sem.run_pure, Result.andThen_ok, invoke]
  simpa [ex] using r1
/-- nothing, copied -/
theorem copy0_ok (x y : Operand) {t u : TypeId} {e : TypeId} {n bytes : Nat} (hS : Fx.sliB P t e n bytes = true) {k off len cap n' : Nat} {ex : Bool} (hx : ρ x = .c (.sl k off len cap n' ex)) (hy : ρ y = .c (.v (.slice none 0 0))) (H : GH) :
    Step P ⟨dst, .call { callee := .builtin .copy, args := #[x, y], argTypes := #[t, u] }, ty0, pos, af, g⟩ ρ H H (.c (.v (.int .i64 0))) := step_val fun w0 m w a _ h => by
  obtain ⟨b, base, size, c, hm, e1, _⟩ := rep_sl (hx ▸ h x (by simp [Op.operands, Call.operands]))
  have e2 := gv_eq (hy ▸ h y (by simp [Op.operands, Call.operands])) (y := .slice none 0 0) rfl
  have hs := Fx.sli_facts hS
  obtain ⟨inf, z, i1, _, i2, _⟩ := hs.i
  have hsz : (sizeOf e).run P w = .ok inf.size w := by simp [Go.sizeOf, typeInfo, i1]
  refine ⟨.int .i64 0, ?_, .c (.v _ rfl)⟩
  simp [execOp, resolve, invoke, builtin, Builtin.copy_, e1, e2, Builtin.lenOf, Builtin.firstCells, goInt, run_underlying hs.u, hsz, storeCells]
end
end Go.Proofs.YtoebfmhogkjmgaaGreatDoor.Gx
