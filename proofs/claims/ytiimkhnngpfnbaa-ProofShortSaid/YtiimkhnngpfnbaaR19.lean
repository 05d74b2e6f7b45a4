/- Parts of the proofs, put together: FxL, FxM, FxR. -/
import Derived.Test.YtiimkhnngpfnbaaR18
import Derived.Laws.Cover3
/- The operations as a function on states, with what is to be shown on the way: for go_simp. No program in sight. -/
namespace Go.Proofs.Ytiimkhnngpfnbaa.Fx
open Go.RowKit
set_option linter.unusedVariables false
set_option linter.unusedSimpArgs false
attribute [go_sem] sget sset sput ev constAV hget hset hdel takeAV cellsAV slotsFrom splice exC exL exAV fillA treeC treeL treesAV rowsOf wanted1
def shp (P : Program) (ty : TypeId) : Option (Bool × Nat) :=
  match P.underlying ty, P.info? ty with
  | some (.struct _), some i => some (true, i.size)
  | some (.array _ _), some i => some (true, i.size)
  | some _, some i => some (false, i.size)
  | _, _ => none
theorem shp_ok {P : Program} {ty : TypeId} {agg : Bool} {n : Nat} (h : shp P ty = some (agg, n)) : shapeB P ty agg n = true := by
  unfold shp at h
  unfold shapeB
  cases hu : P.underlying ty with
  | none => rw [hu] at h; cases h
  | some d =>
    cases hi : P.info? ty with
    | none => rw [hu, hi] at h; cases d <;> cases h
    | some i =>
      rw [hu, hi] at h
      cases d <;> (simp only [Option.some.injEq, Prod.mk.injEq] at h; obtain ⟨rfl, rfl⟩ := h; simp)
def sli (P : Program) (ty : TypeId) : Option (TypeId × Nat × Nat) :=
  match P.underlying ty with
  | some (.slice e) => match P.info? e with
    | some i => match i.zero with
      | some z => if z.cells.size = i.size ∧ 0 < i.size then some (e, i.size, i.bytes) else none
      | none => none
    | none => none
  | _ => none
theorem sli_ok {P : Program} {ty e : TypeId} {n b : Nat} (h : sli P ty = some (e, n, b)) : sliB P ty e n b = true := by
  unfold sli at h
  unfold sliB
  cases hu : P.underlying ty with
  | none => rw [hu] at h; cases h
  | some d =>
    rw [hu] at h
    cases d <;> first | (cases h; done) | skip
    rename_i e'
    simp only at h
    cases hi : P.info? e' with
    | none => rw [hi] at h; cases h
    | some i =>
      rw [hi] at h
      simp only at h
      cases hz : i.zero with
      | none => rw [hz] at h; cases h
      | some z =>
        rw [hz] at h
        simp only at h
        split at h
        · rename_i hc
          simp only [Option.some.injEq, Prod.mk.injEq] at h
          obtain ⟨rfl, rfl, rfl⟩ := h
          simp [hi, hz, hc]
        · cases h
def fld (P : Program) (ty : TypeId) (f : Nat) : Option (Nat × Nat × Bool) :=
  match P.underlying ty with
  | some (.struct fs) => match fs[f]? with
    | some d => match shp P d.type with
      | some (agg, n) => if 0 < n then some (d.offset, n, agg) else none
      | none => none
    | none => none
  | _ => none
theorem fld_ok {P : Program} {ty : TypeId} {f off n : Nat} {agg : Bool} (h : fld P ty f = some (off, n, agg)) : fldB P ty f off n agg = true := by
  unfold fld at h
  unfold fldB
  cases hu : P.underlying ty with
  | none => rw [hu] at h; cases h
  | some d =>
    rw [hu] at h
    cases d <;> first | (cases h; done) | skip
    rename_i fs
    simp only at h ⊢
    cases hd : fs[f]? with
    | none => rw [hd] at h; cases h
    | some d =>
      rw [hd] at h
      simp only at h ⊢
      cases hs : shp P d.type with
      | none => rw [hs] at h; cases h
      | some q =>
        obtain ⟨agg', n'⟩ := q
        rw [hs] at h
        simp only at h
        split at h
        · rename_i hc
          simp only [Option.some.injEq, Prod.mk.injEq] at h
          obtain ⟨rfl, rfl, rfl⟩ := h
          simp [shp_ok hs, hc]
        · cases h
def stc (P : Program) (ty : TypeId) : Option (List (Nat × Nat) × List Value) :=
  match P.underlying ty, P.info? ty with
  | some (.struct fs), some i => match i.zero with
    | some z => if (z.cells.toList.all (·.oneCell') && fs.toList.all (fun f => (P.info? f.type).isSome)) = true then some (fs.toList.map (fun f => (f.offset, ((P.info? f.type).map (·.size)).getD 0)), z.cells.toList) else none
    | none => none
  | _, _ => none
theorem stc_ok {P : Program} {ty : TypeId} {l : List (Nat × Nat)} {z : List Value} (h : stc P ty = some (l, z)) : placesB P ty l = true ∧ (P.info? ty).map (fun i => i.zero.map (fun z => z.cells.toList)) = some (some z) ∧ z.all (·.oneCell') = true := by
  unfold stc at h
  unfold placesB
  cases hu : P.underlying ty with
  | none => rw [hu] at h; cases h
  | some d =>
    cases hi : P.info? ty with
    | none => rw [hu, hi] at h; cases d <;> cases h
    | some i =>
      rw [hu, hi] at h
      cases d <;> first | (cases h; done) | skip
      rename_i fs
      simp only at h ⊢
      cases hz : i.zero with
      | none => rw [hz] at h; cases h
      | some zv =>
        rw [hz] at h
        simp only at h
        split at h
        · rename_i hc
          rw [Bool.and_eq_true] at hc
          simp only [Option.some.injEq, Prod.mk.injEq] at h
          obtain ⟨rfl, rfl⟩ := h
          refine ⟨?_, by simp [hz], hc.1⟩
          rw [beq_iff_eq, List.map_map]
          apply List.map_congr_left
          intro f hf
          have := List.all_eq_true.1 hc.2 f hf
          obtain ⟨inf, hinf⟩ := Option.isSome_iff_exists.1 this
          simp [hinf]
        · cases h
def zro (P : Program) (ty : TypeId) : Option (List Value) :=
  match P.info? ty with
  | some i => match i.zero with
    | some z => if z.cells.toList.all (·.oneCell') = true then some z.cells.toList else none
    | none => none
  | none => none
theorem zro_ok {P : Program} {ty : TypeId} {z : List Value} (h : zro P ty = some z) : (P.info? ty).map (fun i => i.zero.map (fun z => z.cells.toList)) = some (some z) ∧ z.all (·.oneCell') = true := by
  unfold zro at h
  cases hi : P.info? ty with
  | none => rw [hi] at h; cases h
  | some i =>
    rw [hi] at h
    simp only at h
    cases hz : i.zero with
    | none => rw [hz] at h; cases h
    | some zv =>
      rw [hz] at h
      simp only at h
      split at h
      · rename_i hc; injection h with h; subst h; exact ⟨by simp [hz], hc⟩
      · cases h
def arr (P : Program) (ty : TypeId) : Option (Nat × Nat) :=
  match P.underlying ty with
  | some (.array l e) => match P.info? e with
    | some i => some (l, i.size)
    | none => none
  | _ => none
theorem arr_ok {P : Program} {ty : TypeId} {len n : Nat} (h : arr P ty = some (len, n)) : ∃ e, P.underlying ty = some (.array len e) ∧ ∃ i, P.info? e = some i ∧ i.size = n := by
  unfold arr at h
  cases hu : P.underlying ty with
  | none => rw [hu] at h; cases h
  | some d =>
    rw [hu] at h
    cases d <;> first | (cases h; done) | skip
    rename_i l e
    simp only at h
    cases hi : P.info? e with
    | none => rw [hi] at h; cases h
    | some i =>
      rw [hi] at h
      simp only [Option.some.injEq, Prod.mk.injEq] at h
      obtain ⟨rfl, rfl⟩ := h
      exact ⟨e, rfl, i, hi, rfl⟩
theorem wrap_u64 {n : Int} (h : 0 ≤ n ∧ n ≤ 18446744073709551615) : IntKind.u64.wrap n = n := by
  unfold IntKind.wrap; simp [IntKind.bits, IntKind.signed]; omega
theorem wrap_u32 {n : Int} (h : 0 ≤ n ∧ n ≤ 4294967295) : IntKind.u32.wrap n = n := by
  unfold IntKind.wrap; simp [IntKind.bits, IntKind.signed]; omega
theorem wrap_u8 {n : Int} (h : 0 ≤ n ∧ n ≤ 255) : IntKind.u8.wrap n = n := by
  unfold IntKind.wrap; simp [IntKind.bits, IntKind.signed]; omega
theorem wrap_i64 {n : Int} (h : -9223372036854775808 ≤ n ∧ n ≤ 9223372036854775807) : IntKind.i64.wrap n = n := by
  unfold IntKind.wrap; simp [IntKind.bits, IntKind.signed]; omega
theorem dT {p : Prop} [Decidable p] (h : p) : decide p = true := decide_eq_true h
theorem dF {p : Prop} [Decidable p] (h : ¬ p) : decide p = false := decide_eq_false h
theorem nT : (!true) = false := rfl
theorem nF : (!false) = true := rfl
theorem wA {n : Int} (h : 0 ≤ n ∧ n ≤ 18446744073709551615) : IntKind.u64.wrap n = n := wrap_u64 h
theorem wB {n : Int} (h : -9223372036854775808 ≤ n ∧ n ≤ 9223372036854775807) : IntKind.i64.wrap n = n := wrap_i64 h
theorem wC {n : Int} (h : 0 ≤ n ∧ n ≤ 4294967295) : IntKind.u32.wrap n = n := wrap_u32 h
theorem wD {n : Int} (h : 0 ≤ n ∧ n ≤ 255) : IntKind.u8.wrap n = n := wrap_u8 h
def bad : Prop × AV := (False, .dead)
@[go_sem] def loadV (P : Program) (H : AHeap) (ty : TypeId) (x : AV) : Prop × AV :=
  match shp P ty, x with
  | some (agg, n), .c (.ptr k i) => match hget H k with
    | some (.var _ cells) => ((agg = false → n = 1) ∧ i + n ≤ cells.length, takeAV agg n cells i)
    | _ => bad
  | some (agg, n), .c (.el row i) => ((agg = false → n = 1) ∧ i + n ≤ row.length, takeAV agg n (row.map .t) i)
  | some (agg, n), .c (.t (.p row)) => ((agg = false → n = 1) ∧ n ≤ row.length, takeAV agg n (row.map .t) 0)
  | some (agg, n), .c (.elo k len i j) => match hget H k with
    | some (.row _ _ rows) => ((agg = false → n = 1) ∧ len = rows.length ∧ j + n ≤ (rows.getD i []).length, takeAV agg n ((rows.getD i []).map .t) j)
    | _ => bad
  | _, _ => bad
@[go_sem] def fieldAddrV (P : Program) (H : AHeap) (ty : TypeId) (x : AV) (f : Nat) : Prop × AV :=
  match fld P ty f, x with
  | some (off, _, _), .c (.ptr k i) => (True, .c (.ptr k (i + off)))
  | some (off, _, _), .c (.el row j) => (True, .c (.el row (j + off)))
  | some (off, _, _), .c (.t (.p row)) => (True, .c (.el row off))
  | some (off, _, _), .c (.elo k len i j) => match hget H k with
    | some (.row _ _ rows) => (len = rows.length, .c (.elo k len i (j + off)))
    | _ => bad
  | _, _ => bad
@[go_sem] def indexAddrV (P : Program) (H : AHeap) (ty : TypeId) (x ix : AV) : Prop × AV :=
  match sli P ty, x, ix with
  | some (_, n, _), .c (.t (.s rows)), .c (.t (.v (.int _ i))) => (0 ≤ i ∧ i < rows.length ∧ (rows.getD i.toNat []).length = n, .c (.el (rows.getD i.toNat []) 0))
  | some (_, n, _), .c (.own k len), .c (.t (.v (.int _ i))) => match hget H k with
    | some (.row _ n' rows) => (len = rows.length ∧ n = n' ∧ 0 ≤ i ∧ i < len, .c (.elo k len i.toNat 0))
    | _ => bad
  | none, .c (.el row j), .c (.t (.v (.int _ i))) => match arr P ty with
    | some (len, n) => (0 ≤ i ∧ i < len, .c (.el row (j + i.toNat * n)))
    | none => bad
  | none, .c (.ptr k j), .c (.t (.v (.int _ i))) => match arr P ty with
    | some (len, n) => (0 ≤ i ∧ i < len, .c (.ptr k (j + i.toNat * n)))
    | none => bad
  | _, _, _ => bad
@[go_sem] def lenV (P : Program) (H : AHeap) (ty : TypeId) (x : AV) : Prop × AV :=
  match x with
  | .c (.t (.s rows)) => ((sli P ty).isSome = true, .c (.t (.v (.int .i64 rows.length))))
  | .c (.own k len) => match hget H k with
    | some (.row _ _ rows) => ((sli P ty).isSome = true ∧ len = rows.length, .c (.t (.v (.int .i64 len))))
    | _ => bad
  | .c (.t (.v (.slice none 0 0))) => ((sli P ty).isSome = true, .c (.t (.v (.int .i64 0))))
  | .c .z => ((sli P ty).isSome = true, .c (.t (.v (.int .i64 0))))
  | .c (.t (.v (.string s))) => (P.underlying ty = some .string, .c (.t (.v (.int .i64 s.size))))
  | _ => bad
def inK (k : IntKind) (n : Int) : Prop := k.min ≤ n ∧ n ≤ k.max
@[go_sem] theorem inK_i64 (n : Int) : inK .i64 n = (-9223372036854775808 ≤ n ∧ n ≤ 9223372036854775807) := by simp [inK, IntKind.min, IntKind.max, IntKind.bits, IntKind.signed]
@[go_sem] theorem inK_u8 (n : Int) : inK .u8 n = (0 ≤ n ∧ n ≤ 255) := by simp [inK, IntKind.min, IntKind.max, IntKind.bits, IntKind.signed]
@[go_sem] theorem inK_u32 (n : Int) : inK .u32 n = (0 ≤ n ∧ n ≤ 4294967295) := by simp [inK, IntKind.min, IntKind.max, IntKind.bits, IntKind.signed]
@[go_sem] theorem inK_u64 (n : Int) : inK .u64 n = (0 ≤ n ∧ n ≤ 18446744073709551615) := by simp [inK, IntKind.min, IntKind.max, IntKind.bits, IntKind.signed]
theorem wrap_inK {k : IntKind} {n : Int} (h : inK k n) : k.wrap n = n := by
  unfold inK IntKind.min IntKind.max at h
  unfold IntKind.wrap
  cases k <;> simp [IntKind.bits, IntKind.signed] at h ⊢ <;> omega
@[go_sem] def intB (op : BinOp) (k : IntKind) (a b : Int) : Prop × AV :=
  match op with
  | .add => (inK k (a + b), .c (.t (.v (.int k (a + b)))))
  | .sub => (inK k (a - b), .c (.t (.v (.int k (a - b)))))
  | .mul => (inK k (a * b), .c (.t (.v (.int k (a * b)))))
  | .eql => (True, .c (.t (.v (.bool (decide (a = b))))))
  | .neq => (True, .c (.t (.v (.bool (!decide (a = b))))))
  | .lss => (True, .c (.t (.v (.bool (decide (a < b))))))
  | .leq => (True, .c (.t (.v (.bool (decide (a ≤ b))))))
  | .gtr => (True, .c (.t (.v (.bool (decide (a > b))))))
  | .geq => (True, .c (.t (.v (.bool (decide (a ≥ b))))))
  | .quo => (b ≠ 0, .c (.t (.v (.int k (k.wrap (a.tdiv b))))))
  | .rem => (b ≠ 0, .c (.t (.v (.int k (a.tmod b)))))
  | _ => bad
@[go_sem] def strB (op : BinOp) (a b : ByteArray) : Prop × AV :=
  match op with
  | .add => (((a.size + b.size : Nat) : Int) ≤ 9223372036854775807, .c (.t (.v (.string (a ++ b)))))
  | .eql => (True, .c (.t (.v (.bool (a.toList == b.toList)))))
  | .neq => (True, .c (.t (.v (.bool (!(a.toList == b.toList))))))
  | .lss => (True, .c (.t (.v (.bool (Op.bytesLess a.toList b.toList)))))
  | .gtr => (True, .c (.t (.v (.bool (!(Op.bytesLess a.toList b.toList || a.toList == b.toList))))))
  | .leq => (True, .c (.t (.v (.bool (Op.bytesLess a.toList b.toList || a.toList == b.toList)))))
  | .geq => (True, .c (.t (.v (.bool (!(Op.bytesLess a.toList b.toList))))))
  | _ => bad
@[go_sem] def boolB (P : Program) (ty : TypeId) (op : BinOp) (a b : Bool) : Prop × AV :=
  match op with
  | .eql => (P.underlying ty = some .bool, .c (.t (.v (.bool (a == b)))))
  | .neq => (P.underlying ty = some .bool, .c (.t (.v (.bool (!(a == b))))))
  | _ => bad
def isPtrT (P : Program) (ty : TypeId) : Bool := match P.underlying ty with | some (.pointer _) => true | _ => false
@[go_sem] def nilB (P : Program) (ty : TypeId) (op : BinOp) (y : Value) : Prop × AV :=
  match op, y with
  | .eql, .pointer none => (isPtrT P ty = true, .c (.t (.v (.bool false))))
  | .neq, .pointer none => (isPtrT P ty = true, .c (.t (.v (.bool true))))
  | _, _ => bad
@[go_sem] def sliNilB (P : Program) (ty : TypeId) (op : BinOp) (rows : List (List T)) : Prop × AV :=
  match op, rows with
  | .eql, [] => ((sli P ty).isSome = true, .c .ab)
  | .neq, [] => ((sli P ty).isSome = true, .c .ab)
  | .eql, _ :: _ => ((sli P ty).isSome = true, .c (.t (.v (.bool false))))
  | .neq, _ :: _ => ((sli P ty).isSome = true, .c (.t (.v (.bool true))))
  | _, _ => bad
@[go_sem] def nilNilB (P : Program) (ty : TypeId) (op : BinOp) : Prop × AV :=
  match op with
  | .eql => ((sli P ty).isSome = true, .c (.t (.v (.bool true))))
  | .neq => ((sli P ty).isSome = true, .c (.t (.v (.bool false))))
  | _ => bad
@[go_sem] def binV (P : Program) (op : BinOp) (ty : TypeId) (x y : AV) : Prop × AV :=
  match x, y with
  | .c (.t (.v (.int k a))), .c (.t (.v (.int k' b))) => ((intB op k a b).1 ∧ k = k', (intB op k a b).2)
  | .c (.t (.v (.string a))), .c (.t (.v (.string b))) => strB op a b
  | .c (.t (.v (.bool a))), .c (.t (.v (.bool b))) => boolB P ty op a b
  | .c (.t (.s rows)), .c (.t (.v (.slice none 0 0))) => sliNilB P ty op rows
  | .c (.t (.v (.slice none 0 0))), .c (.t (.v (.slice none 0 0))) => nilNilB P ty op
  | .c (.t (.p _)), .c (.t (.v y)) => nilB P ty op y
  | .c (.ptr _ _), .c (.t (.v y)) => nilB P ty op y
  | .c (.el _ _), .c (.t (.v y)) => nilB P ty op y
  | _, _ => bad
@[go_sem] def unV (op : UnOp) (x : AV) : Prop × AV :=
  match op, x with
  | .not, .c (.t (.v (.bool b))) => (True, .c (.t (.v (.bool (!b)))))
  | .neg, .c (.t (.v (.int k n))) => (inK k (0 - n), .c (.t (.v (.int k (0 - n)))))
  | _, _ => bad
def intT (P : Program) (ty : TypeId) : Option IntKind := match P.underlying ty with | some (.int k) => some k | _ => none
@[go_sem] def convV (P : Program) (src dst : TypeId) (x : AV) : Prop × AV :=
  match x with
  | .c (.t (.v (.int k n))) => match intT P dst with
    | some k' => ((P.underlying src).isSome = true, .c (.t (.v (.int k' (k'.wrap n)))))
    | none => bad
  | .c (.t (.v (.string s))) => (P.underlying src = some .string ∧ P.underlying dst = some .string, .c (.t (.v (.string s))))
  | _ => bad
@[go_sem] def nilV (x : AV) : Prop × AV :=
  match x with
  | .c (.ptr k i) => (True, .c (.ptr k i))
  | .c (.t (.p row)) => (True, .c (.t (.p row)))
  | .c (.el row j) => (True, .c (.el row j))
  | _ => bad
@[go_sem] def fieldV (P : Program) (ty : TypeId) (x : AV) (f : Nat) : Prop × AV :=
  match fld P ty f, x with
  | some (off, n, agg), .agg l => ((agg = false → n = 1) ∧ off + n ≤ l.length, takeAV agg n l off)
  | _, _ => bad
@[go_sem] def extractV (x : AV) (i : Nat) : Prop × AV :=
  match x with
  | .tup l => (i < l.length, l.getD i .dead)
  | _ => bad
@[go_sem] def buildV (P : Program) (ty : TypeId) (ps : List (Nat × AV)) : Prop × AV :=
  match stc P ty with
  | some (pl, z) => match fillA pl (z.map fun x => .t (.v x)) ps with
    | some r => (True, .agg r)
    | none => bad
  | none => bad
def optV (x : Option AV) (d : Int) : Option Int :=
  match x with
  | none => some d
  | some (.c (.t (.v (.int _ n)))) => some n
  | _ => none
attribute [go_sem] optV
@[go_sem] def cutV (P : Program) (ty : TypeId) (x : AV) (lo hi : Option AV) : Prop × AV :=
  match x with
  | .c (.t (.s rows)) => match sli P ty, optV lo 0, optV hi rows.length with
    | some (_, n, _), some l, some h => (0 ≤ l ∧ l ≤ h ∧ h ≤ rows.length ∧ (∀ i, i < rows.length → (rows.getD i []).length = n), .c (.t (.s ((rows.take h.toNat).drop l.toNat))))
    | _, _, _ => bad
  | .c (.t (.v (.string s))) => match optV lo 0, optV hi s.size with
    | some l, some h => (P.underlying ty = some .string ∧ 0 ≤ l ∧ l ≤ h ∧ h ≤ s.size, .c (.t (.v (.string (s.extract l.toNat h.toNat)))))
    | _, _ => bad
  | _ => bad
@[go_sem] def indexV (P : Program) (ty : TypeId) (x ix : AV) : Prop × AV :=
  match x, ix with
  | .c (.t (.v (.string s))), .c (.t (.v (.int _ i))) => (P.underlying ty = some .string ∧ 0 ≤ i ∧ i < s.size, .c (.t (.v (.int .u8 (s.data.toList.getD i.toNat 0).toNat))))
  | _, _ => bad
@[go_sem] def cut0V (P : Program) (ty : TypeId) (x y z : AV) : Prop × AV :=
  match x, y, z with
  | .c (.t (.s _)), .c (.t (.v (.int _ a))), .c (.t (.v (.int _ b))) => ((sli P ty).isSome = true ∧ a = 0 ∧ b = 0, .c .z)
  | .c (.t (.v (.slice none 0 0))), .c (.t (.v (.int _ a))), .c (.t (.v (.int _ b))) => ((sli P ty).isSome = true ∧ a = 0 ∧ b = 0, .c .z)
  | .c .z, .c (.t (.v (.int _ a))), .c (.t (.v (.int _ b))) => ((sli P ty).isSome = true ∧ a = 0 ∧ b = 0, .c .z)
  | _, _, _ => bad
def zB : AV → Bool
  | .c .z => true
  | .c (.t (.v (.slice none 0 0))) => true
  | _ => false
attribute [go_sem] zB
@[go_sem] def copyV (P : Program) (ty ty' : TypeId) (x y : AV) : Prop × AV :=
  match sli P ty, y with
  | some (_, n, b), .c (.t (.s more)) => (ty = ty' ∧ zB x = true ∧ (∀ r ∈ more, r.length = n) ∧ more.length ≤ 1000000000 ∧ b ≤ 1000, .c (.t (.s more)))
  | some (_, _, b), .c (.t (.v (.slice none 0 0))) => (ty = ty' ∧ zB x = true ∧ b ≤ 1000, .c (.t (.s [])))
  | _, _ => bad
@[go_sem] def pickV (c x y : AV) : Prop × AV :=
  match c with
  | .c (.t (.v (.bool true))) => (True, x)
  | .c (.t (.v (.bool false))) => (True, y)
  | _ => bad
/-- a value, and what is to be shown for it -/
@[go_sem] def valV (P : Program) (H : AHeap) (s : Slots) (op : Op) : Prop × AV :=
  match op with
  | .move x => (True, ev s x)
  | .assign x => (True, ev s x)
  | .load ty x => loadV P H ty (ev s x)
  | .fieldAddr ty x f => fieldAddrV P H ty (ev s x) f
  | .indexAddr ty x i => indexAddrV P H ty (ev s x) (ev s i)
  | .binOp op ty x y _ => binV P op ty (ev s x) (ev s y)
  | .unOp op _ x => unV op (ev s x)
  | .convert src dst x => convV P src dst (ev s x)
  | .nilCheck x => nilV (ev s x)
  | .field ty x f => fieldV P ty (ev s x) f
  | .extract x i => extractV (ev s x) i
  | .build ty ps => buildV P ty (ps.toList.map fun p => (p.1, ev s p.2))
  | .slice ty x lo hi none => cutV P ty (ev s x) (lo.map (ev s)) (hi.map (ev s))
  | .slice ty x none (some y) (some z) => cut0V P ty (ev s x) (ev s y) (ev s z)
  | .index ty x i => indexV P ty (ev s x) (ev s i)
  | .pick x y z => pickV (ev s x) (ev s y) (ev s z)
  | .call { callee := .builtin .len, args := ⟨[x]⟩, argTypes := ⟨[ty]⟩ } => lenV P H ty (ev s x)
  | .call { callee := .builtin .append, args := ⟨[x, y]⟩, argTypes := ⟨[ty, ty']⟩ } => copyV P ty ty' (ev s x) (ev s y)
  | .buildSlice ty 0 ⟨[]⟩ => ((sli P ty).isSome = true, .c .z)
  | .buildSlice ty len ps => match sli P ty, rowsOf 0 (ps.toList.map fun p => (p.1, ev s p.2)) with
    | some (_, n, _), some rows => (rows.length = len ∧ (∀ r ∈ rows, r.length = n) ∧ len * n ≤ 16777216, .c (.t (.s rows)))
    | _, _ => bad
  | _ => bad
end Go.Proofs.Ytiimkhnngpfnbaa.Fx
/- The function on states is right. No program in sight. -/
namespace Go.Proofs.Ytiimkhnngpfnbaa.Fx
open Go.RowKit
set_option linter.unusedVariables false
set_option linter.unusedSimpArgs false
section
variable {P : Program} {dst : Option Tmp} {ty0 : TypeId} {pos : String} {af : Array Edge} {g : Option (Nat × Bool)} {ρ : Operand → AV} {H : AHeap}
theorem loadV_ok (ty : TypeId) (x : Operand) : (loadV P H ty (ρ x)).1 → StepK P .r ⟨dst, .load ty x, ty0, pos, af, g⟩ ρ H H (loadV P H ty (ρ x)).2 := by
  generalize hx : ρ x = av
  unfold loadV
  split
  · rename_i agg n k i hs
    split
    · rename_i vt cells ho
      intro h
      exact @step_load_ptr P dst ty0 pos af g ρ H ty x agg n ⟨shp_ok hs⟩ k i vt cells hx ho h.1 h.2
    · intro h; exact h.elim
  · rename_i agg n row i hs
    intro h
    exact (@step_load_el P dst ty0 pos af g ρ H ty x agg n ⟨shp_ok hs⟩ row i hx h.1 h.2).up rfl
  · rename_i agg n row hs
    intro h
    exact (@step_load_p P dst ty0 pos af g ρ H ty x agg n ⟨shp_ok hs⟩ row hx h.1 h.2).up rfl
  · rename_i agg n k len i j hs
    split
    · rename_i e m rows ho
      intro h
      exact @step_load_elo P dst ty0 pos af g ρ H ty x agg n ⟨shp_ok hs⟩ k len i j e m rows hx ho h.2.1 h.1 h.2.2
    · intro h; exact h.elim
  · intro h; exact h.elim
theorem fieldAddrV_ok (ty : TypeId) (x : Operand) (f : Nat) : (fieldAddrV P H ty (ρ x) f).1 → StepK P .r ⟨dst, .fieldAddr ty x f, ty0, pos, af, g⟩ ρ H H (fieldAddrV P H ty (ρ x) f).2 := by
  generalize hx : ρ x = av
  unfold fieldAddrV
  split
  · rename_i off n agg k i hs
    intro h
    exact (@step_field_ptr P dst ty0 pos af g ρ H ty x f off n agg ⟨fld_ok hs⟩ k i hx).up rfl
  · rename_i off n agg row j hs
    intro h
    exact (@step_field_el P dst ty0 pos af g ρ H ty x f off n agg ⟨fld_ok hs⟩ row j hx).up rfl
  · rename_i off n agg row hs
    intro h
    exact (@step_field_p P dst ty0 pos af g ρ H ty x f off n agg ⟨fld_ok hs⟩ row hx).up rfl
  · rename_i off n agg k len i j hs
    split
    · rename_i e m rows ho
      intro h
      exact @step_field_elo P dst ty0 pos af g ρ H ty x f off n agg ⟨fld_ok hs⟩ k len i j e m rows hx ho h
    · intro h; exact h.elim
  · intro h; exact h.elim
theorem indexAddrV_ok (ty : TypeId) (x ix : Operand) : (indexAddrV P H ty (ρ x) (ρ ix)).1 → StepK P .r ⟨dst, .indexAddr ty x ix, ty0, pos, af, g⟩ ρ H H (indexAddrV P H ty (ρ x) (ρ ix)).2 := by
  generalize hx : ρ x = av
  generalize hi : ρ ix = iv
  unfold indexAddrV
  split
  · rename_i e n b rows kd i hs
    intro h
    exact (@step_index_t P dst ty0 pos af g ρ H ty x ix e n b ⟨sli_ok hs⟩ rows kd i hx hi h.1 h.2.1 h.2.2).up rfl
  · rename_i e n b k len kd i hs
    split
    · rename_i e' m rows ho
      intro h
      exact @step_index_own P dst ty0 pos af g ρ H ty x ix e n b ⟨sli_ok hs⟩ k len e' m rows kd i hx ho h.1 h.2.1 hi h.2.2.1 h.2.2.2
    · intro h; exact h.elim
  · rename_i row j kd i hs
    split
    · rename_i len n ha
      intro h
      exact (@step_index_arr_el P dst ty0 pos af g ρ H ty x ix len n (arr_ok ha) row j kd i hx hi h.1 h.2).up rfl
    · intro h; exact h.elim
  · rename_i k j kd i hs
    split
    · rename_i len n ha
      intro h
      exact (@step_index_arr_ptr P dst ty0 pos af g ρ H ty x ix len n (arr_ok ha) k j kd i hx hi h.1 h.2).up rfl
    · intro h; exact h.elim
  · intro h; exact h.elim
theorem lenV_ok (ty : TypeId) (x : Operand) : (lenV P H ty (ρ x)).1 → StepK P .r ⟨dst, .call { callee := .builtin .len, args := #[x], argTypes := #[ty] }, ty0, pos, af, g⟩ ρ H H (lenV P H ty (ρ x)).2 := by
  generalize hx : ρ x = av
  unfold lenV
  split
  · rename_i rows
    intro h
    obtain ⟨⟨e, n, b⟩, hs⟩ := Option.isSome_iff_exists.1 h
    exact (@step_len_t P dst ty0 pos af g ρ H ty x e n b ⟨sli_ok hs⟩ rows hx).up rfl
  · rename_i k len
    split
    · rename_i e' m rows ho
      intro h
      obtain ⟨⟨e, n, b⟩, hs⟩ := Option.isSome_iff_exists.1 h.1
      exact @step_len_own P dst ty0 pos af g ρ H ty x e n b ⟨sli_ok hs⟩ k len e' m rows hx ho h.2
    · intro h; exact h.elim
  · intro h
    obtain ⟨⟨e, n, b⟩, hs⟩ := Option.isSome_iff_exists.1 h
    have hF := sli_facts (sli_ok hs)
    refine (step_known (fun _ _ h => by cases h) (fun y hy => ?_) (.int .i64 0) (fun w => ?_) rfl).up rfl
    · have : y = x := by simpa [Op.operands, Call.operands] using hy
      rw [this, hx]; rfl
    · simp [execOp, resolve, invoke, builtin, Builtin.len_, run_underlying hF.u, hx, exAV, exC, goInt]
  · intro h
    obtain ⟨⟨e, n, b⟩, hs⟩ := Option.isSome_iff_exists.1 h
    have hF := sli_facts (sli_ok hs)
    refine StepK.up (k := .p) (stepP_val fun H E c w a _ hh => ?_) rfl
    have hv := hh x (by simp [Op.operands, Call.operands])
    rw [hx] at hv
    generalize hval : a.eval x = val at hv
    cases hv with
    | c hv => cases hv with
      | z ad => exact ⟨.int .i64 0, by simp [execOp, resolve, invoke, builtin, Builtin.len_, run_underlying hF.u, hval, goInt], .c (.t (.v _ rfl))⟩
  · rename_i s
    intro h
    refine (step_known (fun _ _ h => by cases h) (fun y hy => ?_) (.int .i64 s.size) (fun w => ?_) rfl).up rfl
    · have : y = x := by simpa [Op.operands, Call.operands] using hy
      rw [this, hx]; rfl
    · simp [execOp, resolve, invoke, builtin, Builtin.len_, run_underlying h, hx, exAV, exC, goInt]
  · intro h; exact h.elim
theorem run_equal_bool {ty : TypeId} (h : P.underlying ty = some .bool) (a b : Bool) (w : World) : (Op.equal ty (.bool a) (.bool b)).run P w = .ok (a == b) w := by
  show (Op.equalIn (9999 + 1) ty (.bool a) (.bool b)).run P w = _
  unfold Op.equalIn
  simp only [Sem.run_bind, run_underlying h, Result.andThen_ok, Sem.run_pure]
theorem run_equal_nil {ty e : TypeId} (h : P.underlying ty = some (.pointer e)) (ad : Addr) (w : World) : (Op.equal ty (.pointer (some ad)) (.pointer none)).run P w = .ok false w := by
  show (Op.equalIn (9999 + 1) ty (.pointer (some ad)) (.pointer none)).run P w = _
  unfold Op.equalIn
  simp only [Sem.run_bind, run_underlying h, Result.andThen_ok, Sem.run_pure]
theorem step_lit0 (ty : TypeId) {e : TypeId} {n bytes : Nat} [hS : Sli P ty e n bytes] : StepK P .p ⟨dst, .buildSlice ty 0 #[], ty0, pos, af, g⟩ ρ H H (.c .z) :=
  ⟨rfl, fun H2 E c a w K Q hC hx hK => by
    have hF := sli_facts hS.h
    obtain ⟨cs, h1, h2, h3⟩ := lit_run (P := P) (dst := dst) (ty0 := ty0) (pos := pos) (af := af) (g := g) (ρ := ρ) (E := E) (H := H2) (c := c) (w := w) (a := a) ty 0 [] hF (rows := []) rfl rfl (fun i hi => absurd hi (Nat.not_lt_zero _)) (by omega) hx
    have hg : Grew w (w.alloc (.cells cs.toArray e)) := Grew.of_below ((Below.refl _ _).alloc (Nat.le_refl _) _)
    obtain ⟨k1, k2⟩ := hC.grew hg c.A (fun b i h => h) (fun b i h => .inl h)
    unfold Oper.wp
    rw [h3]
    exact hK _ _ _ k1 k2 (.c (.z _))⟩
theorem zB_coe {x : AV} (h : zB x = true) : Coe x (.c .z) := by
  unfold zB at h
  split at h
  · exact Coe.refl _
  · intro c H w v hv
    have e := exAV_eq hv (y := .slice none 0 0) rfl
    rw [e]; exact .c (.z none)
  · cases h
theorem copyV_ok (ty ty' : TypeId) (x y : Operand) : (copyV P ty ty' (ρ x) (ρ y)).1 → StepK P .p ⟨dst, .call { callee := .builtin .append, args := #[x, y], argTypes := #[ty, ty'] }, ty0, pos, af, g⟩ ρ H H (copyV P ty ty' (ρ x) (ρ y)).2 := by
  generalize hx : ρ x = av
  generalize hy : ρ y = bv
  unfold copyV
  split
  · rename_i e n b more hs
    intro h
    obtain ⟨rfl, h1, h2, h3, h4⟩ := h
    exact @step_copy P dst ty0 pos af g ρ H x y ty e n b ⟨sli_ok hs⟩ more (hx ▸ zB_coe h1) (by rw [hy]; exact Coe.refl _) (fun i hi => by
      have e : more.getD i [] = more[i] := by simp [List.getD_eq_getElem?_getD, List.getElem?_eq_getElem hi]
      rw [e]; exact h2 _ (List.getElem_mem hi)) h3 h4
  · rename_i e n b hs
    intro h
    obtain ⟨rfl, h1, h4⟩ := h
    exact @step_copy P dst ty0 pos af g ρ H x y ty e n b ⟨sli_ok hs⟩ [] (hx ▸ zB_coe h1) (by rw [hy]; exact Coe.c CoeC.nil) (fun i hi => absurd hi (Nat.not_lt_zero _)) (by simp) h4
  · intro h; exact h.elim
/-- a known value out of known ones, two operands -/
theorem known2 {o : Oper} {x y : Operand} {a b z : Value} (ho : ∀ q ∈ o.op.operands, q = x ∨ q = y) (hs : ∀ cs b, o.op ≠ .select cs b) (hx : ρ x = .c (.t (.v a))) (hy : ρ y = .c (.t (.v b))) (h : ∀ (r : Operand → Value) w, r x = a → r y = b → (execOp r o).run P w = .ok (.value z) w) (hz : constAV z = .c (.t (.v z))) : StepK P .p o ρ H H (.c (.t (.v z))) := by
  refine step_known hs (fun q hq => ?_) z (fun w => ?_) hz
  · rcases ho q hq with e | e
    · rw [e, hx]; rfl
    · rw [e, hy]; rfl
  · exact h _ w (by simp [hx, exAV, exC]) (by simp [hy, exAV, exC])
theorem intB_ok (op : BinOp) (ty ty2 : TypeId) (x y : Operand) {k k' : IntKind} {a b : Int} (hx : ρ x = .c (.t (.v (.int k a)))) (hy : ρ y = .c (.t (.v (.int k' b)))) : (intB op k a b).1 → k = k' → StepK P .p ⟨dst, .binOp op ty x y ty2, ty0, pos, af, g⟩ ρ H H (intB op k a b).2 := by
  intro h1 h2
  subst h2
  have go : ∀ (z : Value), (∀ (r : Operand → Value) w, r x = .int k a → r y = .int k b → (execOp r ⟨dst, .binOp op ty x y ty2, ty0, pos, af, g⟩).run P w = .ok (.value z) w) → constAV z = .c (.t (.v z)) → StepK P .p ⟨dst, .binOp op ty x y ty2, ty0, pos, af, g⟩ ρ H H (.c (.t (.v z))) := fun z h hz =>
    known2 (x := x) (y := y) (fun q hq => by simpa [Op.operands] using hq) (fun _ _ h => by cases h) hx hy h hz
  have nog : ∀ (r : Operand → Value) (w : World), r x = .int k a → r y = .int k b → (eqGuard op ty x y (r x) (r y)).run P w = .ok () w := fun r w e1 e2 => by
    rw [e1, e2]; unfold eqGuard; cases op <;> simp
  cases op <;> simp only [intB, bad] at h1 ⊢ <;> first | exact h1.elim | skip
  · exact go _ (fun r w e1 e2 => by have := nog r w e1 e2; simp only [execOp, Sem.run_bind, this, Result.andThen_ok]; simp [e1, e2, binOp, Op.intArith, wrap_inK h1]) rfl
  · exact go _ (fun r w e1 e2 => by have := nog r w e1 e2; simp only [execOp, Sem.run_bind, this, Result.andThen_ok]; simp [e1, e2, binOp, Op.intArith, wrap_inK h1]) rfl
  · exact go _ (fun r w e1 e2 => by have := nog r w e1 e2; simp only [execOp, Sem.run_bind, this, Result.andThen_ok]; simp [e1, e2, binOp, Op.intArith, wrap_inK h1]) rfl
  · exact go _ (fun r w e1 e2 => by have := nog r w e1 e2; simp only [execOp, Sem.run_bind, this, Result.andThen_ok]; simp [e1, e2, binOp, Op.intDiv, h1]) rfl
  · exact go _ (fun r w e1 e2 => by have := nog r w e1 e2; simp only [execOp, Sem.run_bind, this, Result.andThen_ok]; simp [e1, e2, binOp, Op.intDiv, h1]) rfl
  · exact go _ (fun r w e1 e2 => by have := nog r w e1 e2; simp only [execOp, Sem.run_bind, this, Result.andThen_ok]; simp [e1, e2, binOp, Op.intCmp]; rfl) rfl
  · exact go _ (fun r w e1 e2 => by have := nog r w e1 e2; simp only [execOp, Sem.run_bind, this, Result.andThen_ok]; simp [e1, e2, binOp, Op.intCmp]; rfl) rfl
  · exact go _ (fun r w e1 e2 => by have := nog r w e1 e2; simp only [execOp, Sem.run_bind, this, Result.andThen_ok]; simp [e1, e2, binOp, Op.intCmp]) rfl
  · exact go _ (fun r w e1 e2 => by have := nog r w e1 e2; simp only [execOp, Sem.run_bind, this, Result.andThen_ok]; simp [e1, e2, binOp, Op.intCmp]) rfl
  · exact go _ (fun r w e1 e2 => by have := nog r w e1 e2; simp only [execOp, Sem.run_bind, this, Result.andThen_ok]; simp [e1, e2, binOp, Op.intCmp]) rfl
  · exact go _ (fun r w e1 e2 => by have := nog r w e1 e2; simp only [execOp, Sem.run_bind, this, Result.andThen_ok]; simp [e1, e2, binOp, Op.intCmp]) rfl
theorem strB_ok (op : BinOp) (ty ty2 : TypeId) (x y : Operand) {a b : ByteArray} (hx : ρ x = .c (.t (.v (.string a)))) (hy : ρ y = .c (.t (.v (.string b)))) : (strB op a b).1 → StepK P .p ⟨dst, .binOp op ty x y ty2, ty0, pos, af, g⟩ ρ H H (strB op a b).2 := by
  intro h1
  have go : ∀ (z : Value), (∀ (r : Operand → Value) w, r x = .string a → r y = .string b → (execOp r ⟨dst, .binOp op ty x y ty2, ty0, pos, af, g⟩).run P w = .ok (.value z) w) → constAV z = .c (.t (.v z)) → StepK P .p ⟨dst, .binOp op ty x y ty2, ty0, pos, af, g⟩ ρ H H (.c (.t (.v z))) := fun z h hz =>
    known2 (x := x) (y := y) (fun q hq => by simpa [Op.operands] using hq) (fun _ _ h => by cases h) hx hy h hz
  have nog : ∀ (r : Operand → Value) (w : World), r x = .string a → r y = .string b → (eqGuard op ty x y (r x) (r y)).run P w = .ok () w := fun r w e1 e2 => by
    rw [e1, e2]; unfold eqGuard; cases op <;> simp
  cases op <;> simp only [strB, bad] at h1 ⊢ <;> first | exact h1.elim | skip
  · exact go _ (fun r w e1 e2 => by
      have := nog r w e1 e2
      have hm : ¬ (((a.size + b.size : Nat) : Int) > IntKind.i64.max) := by simp only [IntKind.max, IntKind.bits, IntKind.signed]; simp; omega
      rw [e1, e2] at this
      simp only [execOp, Sem.run_bind, e1, e2, this, Result.andThen_ok, binOp, Op.stringOp, if_neg hm, Sem.run_pure]) rfl
  all_goals exact go _ (fun r w e1 e2 => by have := nog r w e1 e2; simp only [execOp, Sem.run_bind, this, Result.andThen_ok]; simp [e1, e2, binOp, Op.stringOp]) rfl
theorem boolB_ok (op : BinOp) (ty ty2 : TypeId) (x y : Operand) {a b : Bool} (hx : ρ x = .c (.t (.v (.bool a)))) (hy : ρ y = .c (.t (.v (.bool b)))) : (boolB P ty op a b).1 → StepK P .p ⟨dst, .binOp op ty x y ty2, ty0, pos, af, g⟩ ρ H H (boolB P ty op a b).2 := by
  intro h1
  have go : ∀ (z : Value), (∀ (r : Operand → Value) w, r x = .bool a → r y = .bool b → (execOp r ⟨dst, .binOp op ty x y ty2, ty0, pos, af, g⟩).run P w = .ok (.value z) w) → constAV z = .c (.t (.v z)) → StepK P .p ⟨dst, .binOp op ty x y ty2, ty0, pos, af, g⟩ ρ H H (.c (.t (.v z))) := fun z h hz =>
    known2 (x := x) (y := y) (fun q hq => by simpa [Op.operands] using hq) (fun _ _ h => by cases h) hx hy h hz
  have nog : ∀ (r : Operand → Value) (w : World), r x = .bool a → r y = .bool b → (eqGuard op ty x y (r x) (r y)).run P w = .ok () w := fun r w e1 e2 => by
    rw [e1, e2]; unfold eqGuard; cases op <;> simp
  cases op <;> simp only [boolB, bad] at h1 ⊢ <;> first | exact h1.elim | skip
  all_goals exact go _ (fun r w e1 e2 => by have := nog r w e1 e2; simp only [execOp, Sem.run_bind, this, Result.andThen_ok]; simp [e1, e2, binOp, run_equal_bool h1, Sem.run_bind]) rfl
theorem nilB_ok (op : BinOp) (ty ty2 : TypeId) (x y : Operand) {v : Value} (hx : ∀ c H w u, VRep c H w u (ρ x) → ∃ ad, u = .pointer (some ad)) (hy : ρ y = .c (.t (.v v))) : (nilB P ty op v).1 → StepK P .p ⟨dst, .binOp op ty x y ty2, ty0, pos, af, g⟩ ρ H H (nilB P ty op v).2 := by
  unfold nilB
  have key : ∀ (z : Bool) (op' : BinOp), op' = op → (∀ (ad : Addr) w, isPtrT P ty = true → (binOp op' ty (.pointer (some ad)) (.pointer none)).run P w = .ok (.bool z) w) → (op' = .eql ∨ op' = .neq) → v = .pointer none → isPtrT P ty = true → StepK P .p ⟨dst, .binOp op ty x y ty2, ty0, pos, af, g⟩ ρ H H (.c (.t (.v (.bool z)))) := by
    intro z op' hop hb hq hv ht
    subst hop
    refine stepP_val fun H E c w a _ h => ?_
    obtain ⟨ad, e1⟩ := hx c H w _ (h x (by simp [Op.operands]))
    have e2 := exAV_eq (hy ▸ h y (by simp [Op.operands])) (y := v) rfl
    rw [hv] at e2
    refine ⟨.bool z, ?_, .c (.t (.v _ rfl))⟩
    simp only [execOp, Sem.run_bind, e1, e2]
    have hg : (eqGuard op' ty x y (.pointer (some ad)) (.pointer none)).run P w = .ok () w := by unfold eqGuard; rcases hq with rfl | rfl <;> simp
    rw [hg]
    simp only [Result.andThen_ok, hb ad w ht, Sem.run_pure]
  have hu : isPtrT P ty = true → ∃ e, P.underlying ty = some (.pointer e) := fun h => by
    unfold isPtrT at h
    split at h
    · rename_i e he; exact ⟨e, he⟩
    · cases h
  split
  · intro h
    refine key false .eql rfl (fun ad w ht => ?_) (.inl rfl) rfl h
    obtain ⟨e, he⟩ := hu ht
    simp [binOp, run_equal_nil he, Sem.run_bind]
  · intro h
    refine key true .neq rfl (fun ad w ht => ?_) (.inr rfl) rfl h
    obtain ⟨e, he⟩ := hu ht
    simp [binOp, run_equal_nil he, Sem.run_bind]
  · intro h; exact h.elim
theorem sliNilB_ok (op : BinOp) (ty ty2 : TypeId) (x y : Operand) {rows : List (List T)} (hx : ρ x = .c (.t (.s rows))) (hy : ρ y = .c (.t (.v (.slice none 0 0)))) : (sliNilB P ty op rows).1 → StepK P .p ⟨dst, .binOp op ty x y ty2, ty0, pos, af, g⟩ ρ H H (sliNilB P ty op rows).2 := by
  have key : ∀ (op' : BinOp) (r : AV), op' = op → (op' = .eql ∨ op' = .neq) → (sli P ty).isSome = true → (∀ ad l cap c H w, VRep c H w (.slice ad l cap) (.c (.t (.s rows))) → VRep c H w (.bool (if op' = .eql then ad.isNone else !ad.isNone)) r) → StepK P .p ⟨dst, .binOp op ty x y ty2, ty0, pos, af, g⟩ ρ H H r := by
    intro op' r ho hq ht hr
    subst ho
    obtain ⟨⟨e, n, b⟩, hs⟩ := Option.isSome_iff_exists.1 ht
    have hF := sli_facts (sli_ok hs)
    refine stepP_val fun H E c w a _ h => ?_
    have hv := h x (by simp [Op.operands])
    rw [hx] at hv
    have ey := exAV_eq (hy ▸ h y (by simp [Op.operands])) (y := .slice none 0 0) rfl
    have hval : ∃ ad l cap, a.eval x = .slice ad l cap := by
      generalize a.eval x = v at hv
      cases hv with
      | c hv => cases hv with
        | t hv => cases hv with
          | e ad cap => exact ⟨_, _, _, rfl⟩
          | s b off cap n' _ vs g1 g2 gn gc gr => exact ⟨_, _, _, rfl⟩
    obtain ⟨ad, l, cap, ex⟩ := hval
    rw [ex] at hv
    rcases hq with rfl | rfl
    · refine ⟨.bool ad.isNone, ?_, by simpa using hr ad l cap c H w hv⟩
      simp [execOp, ex, ey, eqGuard, binOp, Sem.run_bind, run_equal_slice_nil w ty e ad l cap hF.u]
    · refine ⟨.bool (!ad.isNone), ?_, by simpa using hr ad l cap c H w hv⟩
      simp [execOp, ex, ey, eqGuard, binOp, Sem.run_bind, run_equal_slice_nil w ty e ad l cap hF.u]
  have some_ : ∀ {r : List T} {t : List (List T)}, rows = r :: t → ∀ {ad l cap c H w}, VRep c H w (.slice ad l cap) (.c (.t (.s rows))) → ad.isNone = false := fun h ad l cap c H w hv => by
    cases hv with
    | c hv => cases hv with
      | t hv => cases hv with
        | e => cases h
        | s => rfl
  unfold sliNilB
  split
  · intro h; exact key .eql _ rfl (.inl rfl) h (fun _ _ _ _ _ _ _ => .c (.ab _))
  · intro h; exact key .neq _ rfl (.inr rfl) h (fun _ _ _ _ _ _ _ => .c (.ab _))
  · intro h; exact key .eql _ rfl (.inl rfl) h (fun ad l cap c H w hv => by rw [if_pos rfl, some_ rfl hv]; exact .c (.t (.v _ rfl)))
  · intro h; exact key .neq _ rfl (.inr rfl) h (fun ad l cap c H w hv => by rw [if_neg (by simp), some_ rfl hv]; exact .c (.t (.v _ rfl)))
  · intro h; exact h.elim
theorem nilNilB_ok (op : BinOp) (ty ty2 : TypeId) (x y : Operand) (hx : ρ x = .c (.t (.v (.slice none 0 0)))) (hy : ρ y = .c (.t (.v (.slice none 0 0)))) : (nilNilB P ty op).1 → StepK P .p ⟨dst, .binOp op ty x y ty2, ty0, pos, af, g⟩ ρ H H (nilNilB P ty op).2 := by
  unfold nilNilB
  split
  · intro ht
    obtain ⟨⟨e, n, b⟩, hs⟩ := Option.isSome_iff_exists.1 ht
    have hF := sli_facts (sli_ok hs)
    exact known2 (x := x) (y := y) (fun q hq => by simpa [Op.operands] using hq) (fun _ _ h => by cases h) hx hy (fun r w e1 e2 => by
      simp [execOp, e1, e2, eqGuard, binOp, Sem.run_bind, run_equal_slice_nil w ty e none 0 0 hF.u]) rfl
  · intro ht
    obtain ⟨⟨e, n, b⟩, hs⟩ := Option.isSome_iff_exists.1 ht
    have hF := sli_facts (sli_ok hs)
    exact known2 (x := x) (y := y) (fun q hq => by simpa [Op.operands] using hq) (fun _ _ h => by cases h) hx hy (fun r w e1 e2 => by
      simp [execOp, e1, e2, eqGuard, binOp, Sem.run_bind, run_equal_slice_nil w ty e none 0 0 hF.u]) rfl
  · intro h; exact h.elim
theorem binV_ok (op : BinOp) (ty ty2 : TypeId) (x y : Operand) : (binV P op ty (ρ x) (ρ y)).1 → StepK P .p ⟨dst, .binOp op ty x y ty2, ty0, pos, af, g⟩ ρ H H (binV P op ty (ρ x) (ρ y)).2 := by
  generalize hx : ρ x = av
  generalize hy : ρ y = bv
  unfold binV
  split
  · intro h; exact intB_ok op ty ty2 x y hx hy h.1 h.2
  · exact strB_ok op ty ty2 x y hx hy
  · exact boolB_ok op ty ty2 x y hx hy
  · exact sliNilB_ok op ty ty2 x y hx hy
  · exact nilNilB_ok op ty ty2 x y hx hy
  · exact nilB_ok op ty ty2 x y (fun c H w u h => by rw [hx] at h; obtain ⟨b, o, _, e, _⟩ := cp h; exact ⟨_, e⟩) hy
  · exact nilB_ok op ty ty2 x y (fun c H w u h => by rw [hx] at h; obtain ⟨b, _, _, e, _⟩ := cptr h; exact ⟨_, e⟩) hy
  · exact nilB_ok op ty ty2 x y (fun c H w u h => by rw [hx] at h; obtain ⟨b, o, _, e, _⟩ := cel h; exact ⟨_, e⟩) hy
  · intro h; exact h.elim
theorem known1 {o : Oper} {x : Operand} {a z : Value} (ho : ∀ q ∈ o.op.operands, q = x) (hs : ∀ cs b, o.op ≠ .select cs b) (hx : ρ x = .c (.t (.v a))) (h : ∀ (r : Operand → Value) w, r x = a → (execOp r o).run P w = .ok (.value z) w) (hz : constAV z = .c (.t (.v z))) : StepK P .p o ρ H H (.c (.t (.v z))) := by
  refine step_known hs (fun q hq => ?_) z (fun w => ?_) hz
  · rw [ho q hq, hx]; rfl
  · exact h _ w (by simp [hx, exAV, exC])
theorem unV_ok (op : UnOp) (ty : TypeId) (x : Operand) : (unV op (ρ x)).1 → StepK P .p ⟨dst, .unOp op ty x, ty0, pos, af, g⟩ ρ H H (unV op (ρ x)).2 := by
  generalize hx : ρ x = av
  unfold unV
  split
  · intro h
    exact known1 (x := x) (fun q hq => by simpa [Op.operands] using hq) (fun _ _ h => by cases h) hx (fun r w e => by simp [execOp, e, Op.unary]) rfl
  · intro h
    exact known1 (x := x) (fun q hq => by simpa [Op.operands] using hq) (fun _ _ h => by cases h) hx (fun r w e => by simp only [execOp, e, Op.unary, Op.intArith, wrap_inK h]; rfl) rfl
  · intro h; exact h.elim
theorem convV_ok (src dt : TypeId) (x : Operand) : (convV P src dt (ρ x)).1 → StepK P .p ⟨dst, .convert src dt x, ty0, pos, af, g⟩ ρ H H (convV P src dt (ρ x)).2 := by
  generalize hx : ρ x = av
  unfold convV
  split
  · rename_i k n
    split
    · rename_i k' hk
      intro h
      have hd : P.underlying dt = some (.int k') := by
        unfold intT at hk
        split at hk
        · rename_i k2 hu; injection hk with hk; rw [hu, hk]
        · cases hk
      refine known1 (x := x) (fun q hq => by simpa [Op.operands] using hq) (fun _ _ h => by cases h) hx (fun r w e => ?_) rfl
      obtain ⟨d, hsrc⟩ := Option.isSome_iff_exists.1 h
      simp only [execOp, e, convert, Sem.run_bind, run_underlying hsrc, run_underlying hd, Result.andThen_ok]
      simp [Conv.intToInt]
    · intro h; exact h.elim
  · intro h
    refine known1 (x := x) (fun q hq => by simpa [Op.operands] using hq) (fun _ _ h => by cases h) hx (fun r w e => ?_) rfl
    simp only [execOp, e, convert, Sem.run_bind, run_underlying h.1, run_underlying h.2, Result.andThen_ok, Sem.run_pure]
  · intro h; exact h.elim
theorem nilV_ok (x : Operand) : (nilV (ρ x)).1 → StepK P .p ⟨dst, .nilCheck x, ty0, pos, af, g⟩ ρ H H (nilV (ρ x)).2 := by
  generalize hx : ρ x = av
  unfold nilV
  split
  · intro _; exact step_nil_ptr x hx
  · intro _; exact step_nil_p x hx
  · intro _; exact step_nil_el x hx
  · intro h; exact h.elim
theorem fieldV_ok (ty : TypeId) (x : Operand) (f : Nat) : (fieldV P ty (ρ x) f).1 → StepK P .p ⟨dst, .field ty x f, ty0, pos, af, g⟩ ρ H H (fieldV P ty (ρ x) f).2 := by
  generalize hx : ρ x = av
  unfold fieldV
  split
  · rename_i off n agg l hs
    intro h
    exact @step_field P dst ty0 pos af g ρ H ty x f off n agg ⟨fld_ok hs⟩ l hx h.1 h.2
  · intro h; exact h.elim
theorem extractV_ok (x : Operand) (i : Nat) : (extractV (ρ x) i).1 → StepK P .p ⟨dst, .extract x i, ty0, pos, af, g⟩ ρ H H (extractV (ρ x) i).2 := by
  generalize hx : ρ x = av
  unfold extractV
  split
  · intro h; exact step_extract x i hx h
  · intro h; exact h.elim
theorem buildV_ok (ty : TypeId) (ps : List (Nat × Operand)) : (buildV P ty (ps.map fun p => (p.1, ρ p.2))).1 → StepK P .p ⟨dst, .build ty ps.toArray, ty0, pos, af, g⟩ ρ H H (buildV P ty (ps.map fun p => (p.1, ρ p.2))).2 := by
  unfold buildV
  split
  · rename_i pl z hs
    split
    · rename_i r hr
      intro _
      obtain ⟨h1, h2, h3⟩ := stc_ok hs
      exact @step_build P dst ty0 pos af g ρ H ty ps pl z ⟨h1⟩ ⟨h2, h3⟩ r hr
    · intro h; exact h.elim
  · intro h; exact h.elim
theorem cutV_ok (ty : TypeId) (x : Operand) (lo hi : Option Operand) : (cutV P ty (ρ x) (lo.map ρ) (hi.map ρ)).1 → StepK P .p ⟨dst, .slice ty x lo hi none, ty0, pos, af, g⟩ ρ H H (cutV P ty (ρ x) (lo.map ρ) (hi.map ρ)).2 := by
  have hopt : ∀ (o : Option Operand) (d l : Int), optV (o.map ρ) d = some l → match o with | some y => ∃ kd, ρ y = .c (.t (.v (.int kd l))) | none => l = d := by
    intro o d l h
    cases o with
    | none => injection h with h; exact h.symm
    | some y =>
      simp only [Option.map_some] at h ⊢
      unfold optV at h
      split at h
      · rename_i he; cases he
      · rename_i kd n he; injection he with he; injection h with h; subst h; exact ⟨kd, he⟩
      · cases h
  generalize hx : ρ x = av
  unfold cutV
  split
  · rename_i rows
    split
    · rename_i e n b l h hs hl hh
      intro hc
      obtain ⟨c1, c2, c3, c4⟩ := hc
      obtain ⟨l', rfl⟩ : ∃ l' : Nat, l = l' := ⟨l.toNat, by omega⟩
      obtain ⟨h', rfl⟩ : ∃ h' : Nat, h = h' := ⟨h.toNat, by omega⟩
      have h1 := hopt _ _ _ hl
      have h2 := hopt _ _ _ hh
      simp only [Int.toNat_natCast]
      refine @step_cut P dst ty0 pos af g ρ H ty x lo hi e n b ⟨sli_ok hs⟩ rows l' h' hx ?_ ?_ (by omega) (by omega) c4
      · cases lo with
        | none => simp only at h1 ⊢; omega
        | some y => exact h1
      · cases hi with
        | none => simp only at h2 ⊢; omega
        | some y => exact h2
    · intro h; exact h.elim
  · rename_i s
    split
    · rename_i l h hl hh
      intro hc
      obtain ⟨c0, c1, c2, c3⟩ := hc
      obtain ⟨l', rfl⟩ : ∃ l' : Nat, l = l' := ⟨l.toNat, by omega⟩
      obtain ⟨h', rfl⟩ : ∃ h' : Nat, h = h' := ⟨h.toNat, by omega⟩
      have h1 := hopt _ _ _ hl
      have h2 := hopt _ _ _ hh
      simp only [Int.toNat_natCast]
      refine step_known (fun _ _ h => by cases h) (fun q hq => ?_) (.string (s.extract l' h')) (fun w => ?_) rfl
      · have hq' : q = x ∨ q ∈ lo ∨ q ∈ hi := by
          have := hq
          simp [Op.operands] at this
          rcases this with e | e | e
          · exact .inl e
          · exact .inr (.inl e)
          · exact .inr (.inr e)
        rcases hq' with e | e | e
        · rw [e, hx]; rfl
        · cases lo with
          | none => cases e
          | some y => injection e with e; subst e; obtain ⟨kd, e⟩ := h1; rw [e]; rfl
        · cases hi with
          | none => cases e
          | some y => injection e with e; subst e; obtain ⟨kd, e⟩ := h2; rw [e]; rfl
      · have hhb : ∀ kd, (Instr.sliceBound (.int kd h') s.size .sliceAlen).run P w = .ok h' w := fun kd => by
          simp [Instr.sliceBound, asIntOf]; omega
        have hlb : ∀ kd, (Instr.sliceBound (.int kd l') h' .sliceB).run P w = .ok l' w := fun kd => by
          simp [Instr.sliceBound, asIntOf]; omega
        cases lo with
        | none =>
          simp only at h1
          have e1 : l' = 0 := by omega
          subst e1
          cases hi with
          | none =>
            simp only at h2
            have e2 : h' = s.size := by omega
            subst e2
            simp only [execOp, Instr.sliceAt, Sem.run_bind, run_underlying c0, Result.andThen_ok, hx, exAV, exC, Option.getD_some, Instr.slice, Instr.sliceBounds, Option.map_none, Option.isSome_none, Bool.false_eq_true, if_false, Sem.run_pure]
          | some y =>
            obtain ⟨kd, e⟩ := h2
            simp only [execOp, Instr.sliceAt, Sem.run_bind, run_underlying c0, Result.andThen_ok, hx, e, exAV, exC, Option.getD_some, Instr.slice, Instr.sliceBounds, Option.map_none, Option.map_some, Option.isSome_none, Bool.false_eq_true, if_false, Sem.run_pure, hhb]
        | some yl =>
          obtain ⟨kl, el⟩ := h1
          cases hi with
          | none =>
            simp only at h2
            have e2 : h' = s.size := by omega
            subst e2
            simp only [execOp, Instr.sliceAt, Sem.run_bind, run_underlying c0, Result.andThen_ok, hx, el, exAV, exC, Option.getD_some, Instr.slice, Instr.sliceBounds, Option.map_none, Option.map_some, Option.isSome_none, Bool.false_eq_true, if_false, Sem.run_pure, hlb]
          | some y =>
            obtain ⟨kd, e⟩ := h2
            simp only [execOp, Instr.sliceAt, Sem.run_bind, run_underlying c0, Result.andThen_ok, hx, el, e, exAV, exC, Option.getD_some, Instr.slice, Instr.sliceBounds, Option.map_none, Option.map_some, Option.isSome_none, Bool.false_eq_true, if_false, Sem.run_pure, hhb, hlb]
    · intro h; exact h.elim
  · intro h; exact h.elim
theorem cut0V_ok (ty : TypeId) (x y z : Operand) : (cut0V P ty (ρ x) (ρ y) (ρ z)).1 → StepK P .p ⟨dst, .slice ty x none (some y) (some z), ty0, pos, af, g⟩ ρ H H (cut0V P ty (ρ x) (ρ y) (ρ z)).2 := by
  generalize hx : ρ x = av
  generalize hy : ρ y = bv
  generalize hz : ρ z = cv
  unfold cut0V
  split
  · intro h
    obtain ⟨h1, rfl, rfl⟩ := h
    obtain ⟨⟨e, n, b⟩, hs⟩ := Option.isSome_iff_exists.1 h1
    exact @step_cut0 P dst ty0 pos af g ρ H ty x y z e n b ⟨sli_ok hs⟩ _ _ _ (by rw [hx]; exact Coe.refl _) hy hz
  · intro h
    obtain ⟨h1, rfl, rfl⟩ := h
    obtain ⟨⟨e, n, b⟩, hs⟩ := Option.isSome_iff_exists.1 h1
    exact @step_cut0 P dst ty0 pos af g ρ H ty x y z e n b ⟨sli_ok hs⟩ [] _ _ (by rw [hx]; exact Coe.c CoeC.nil) hy hz
  · intro h
    obtain ⟨h1, rfl, rfl⟩ := h
    obtain ⟨⟨e, n, b⟩, hs⟩ := Option.isSome_iff_exists.1 h1
    exact @step_cut0 P dst ty0 pos af g ρ H ty x y z e n b ⟨sli_ok hs⟩ [] _ _ (by rw [hx]; exact Coe.c CoeC.z) hy hz
  · intro h; exact h.elim
theorem indexV_ok (ty : TypeId) (x ix : Operand) : (indexV P ty (ρ x) (ρ ix)).1 → StepK P .p ⟨dst, .index ty x ix, ty0, pos, af, g⟩ ρ H H (indexV P ty (ρ x) (ρ ix)).2 := by
  generalize hx : ρ x = av
  generalize hi : ρ ix = iv
  unfold indexV
  split
  · rename_i s kd i
    intro h
    refine known2 (x := x) (y := ix) (fun q hq => by simpa [Op.operands] using hq) (fun _ _ h => by cases h) hx hi (fun r w e1 e2 => ?_) rfl
    have hlt : i.toNat < s.size := by omega
    have hs : s[i.toNat]? = some (s.data.toList.getD i.toNat 0) := by
      rw [getElem?_pos s i.toNat hlt]
      have : i.toNat < s.data.toList.length := by simpa using hlt
      rw [List.getD_eq_getElem?_getD, List.getElem?_eq_getElem this]
      rfl
    simp [execOp, e1, e2, Instr.index, asIntOf, run_underlying h.1, h.2.1, hs]
  · intro h; exact h.elim
theorem pickV_ok (x y z : Operand) : (pickV (ρ x) (ρ y) (ρ z)).1 → StepK P .p ⟨dst, .pick x y z, ty0, pos, af, g⟩ ρ H H (pickV (ρ x) (ρ y) (ρ z)).2 := by
  generalize hx : ρ x = av
  unfold pickV
  split
  · intro _; exact step_pick x y z hx rfl
  · intro _; exact step_pick x y z hx rfl
  · intro h; exact h.elim
end
end Go.Proofs.Ytiimkhnngpfnbaa.Fx
/- Calls that change what they are handed: the callee's names for it, and the caller's. No program in sight. -/
namespace Go.Proofs.Ytiimkhnngpfnbaa.Fx
open Go.RowKit
set_option linter.unusedVariables false
set_option linter.unusedSimpArgs false
/-- the callee's key, the caller's key -/
def lk : List (Nat × Nat) → Nat → Option Nat
  | [], _ => none
  | (a, b) :: t, k => if a = k then some b else lk t k
def rl : List (Nat × Nat) → Nat → Option Nat
  | [], _ => none
  | (a, b) :: t, k => if b = k then some a else rl t k
def one1 : List (Nat × Nat) → Bool
  | [] => true
  | (a, b) :: t => (lk t a).isNone && (rl t b).isNone && one1 t
theorem lk_rl : ∀ (ps : List (Nat × Nat)), one1 ps = true → ∀ j k, lk ps j = some k ↔ rl ps k = some j := by
  intro ps
  induction ps with
  | nil => intro _ j k; simp [lk, rl]
  | cons p t ih =>
    obtain ⟨a, b⟩ := p
    intro h j k
    simp only [one1, Bool.and_eq_true, Option.isNone_iff_eq_none] at h
    obtain ⟨⟨h1, h2⟩, h3⟩ := h
    have ih' := ih h3
    simp only [lk, rl]
    by_cases e1 : a = j <;> by_cases e2 : b = k
    · subst e1; subst e2; simp
    · subst e1
      rw [if_pos rfl, if_neg e2]
      constructor
      · intro h; injection h with h; exact absurd h e2
      · intro h; rw [(ih' a k).2 h] at h1; cases h1
    · subst e2
      rw [if_neg e1, if_pos rfl]
      constructor
      · intro h; rw [(ih' j b).1 h] at h2; cases h2
      · intro h; injection h with h; exact absurd h e1
    · rw [if_neg e1, if_neg e2]; exact ih' j k
mutual
def renC (ps : List (Nat × Nat)) : CV → CV
  | .ptr k i => match lk ps k with | some k' => .ptr k' i | none => .dead
  | .own k len => match lk ps k with | some k' => .own k' len | none => .dead
  | .elo k len i j => match lk ps k with | some k' => .elo k' len i j | none => .dead
  | .fn f a b => .fn f (renL ps a) (renL ps b)
  | .dead => .dead
  | .t x => .t x
  | .z => .z
  | .ab => .ab
  | .el row j => .el row j
def renL (ps : List (Nat × Nat)) : List CV → List CV
  | [] => []
  | x :: t => renC ps x :: renL ps t
end
mutual
def renAV (ps : List (Nat × Nat)) : AV → AV
  | .c x => .c (renC ps x)
  | .agg l => .agg (renL ps l)
  | .tup l => .tup (renAL ps l)
  | .dead => .dead
def renAL (ps : List (Nat × Nat)) : List AV → List AV
  | [] => []
  | x :: t => renAV ps x :: renAL ps t
end
def renO (ps : List (Nat × Nat)) : AObj → AObj
  | .var ty cells => .var ty (renL ps cells)
  | .row ty n rows => .row ty n rows
theorem renL_map (ps : List (Nat × Nat)) : ∀ l, renL ps l = l.map (renC ps) := by
  intro l; induction l with
  | nil => rfl
  | cons x t ih => simp [renL, ih]
theorem renAL_map (ps : List (Nat × Nat)) : ∀ l, renAL ps l = l.map (renAV ps) := by
  intro l; induction l with
  | nil => rfl
  | cons x t ih => simp [renAL, ih]
theorem renL_get (ps : List (Nat × Nat)) (l : List CV) (i : Nat) : (renL ps l).getD i .dead = renC ps (l.getD i .dead) := by
  rw [renL_map]
  simp only [List.getD_eq_getElem?_getD, List.getElem?_map]
  cases l[i]? <;> simp [renC]
theorem renAL_get (ps : List (Nat × Nat)) (l : List AV) (i : Nat) : (renAL ps l).getD i .dead = renAV ps (l.getD i .dead) := by
  rw [renAL_map]
  simp only [List.getD_eq_getElem?_getD, List.getElem?_map]
  cases l[i]? <;> simp [renAV]
theorem renL_len (ps : List (Nat × Nat)) (l : List CV) : (renL ps l).length = l.length := by rw [renL_map]; simp
theorem renAL_len (ps : List (Nat × Nat)) (l : List AV) : (renAL ps l).length = l.length := by rw [renAL_map]; simp
/-- from the caller's names to the callee's -/
theorem CRep.un {c : Cx} {H : AHeap} {w : World} {ps : List (Nat × Nat)} {m0 : Nat → Value} {H0 : AHeap} (h0 : ∀ j o, hget H0 j = some o → ∃ k, lk ps j = some k ∧ hget H k = some (renO ps o) ∧ m0 j = c.m k) {v : Value} {y : CV} (h : CRep c H w v y) : ∀ x, renC ps x = y → okC H0 x = true → CRep ⟨m0, c.A⟩ H0 w v x := by
  have key : ∀ k0, (hget H0 k0).isSome = true → ∃ o k, hget H0 k0 = some o ∧ lk ps k0 = some k ∧ hget H k = some (renO ps o) ∧ m0 k0 = c.m k := fun k0 h => by
    obtain ⟨o, ho⟩ := Option.isSome_iff_exists.1 h
    obtain ⟨k, h1, h2, h3⟩ := h0 _ _ ho
    exact ⟨o, k, ho, h1, h2, h3⟩
  induction h with
  | dead v h =>
    intro x hx hok
    cases x with
    | dead => exact .dead v h
    | ptr k i => simp only [okC] at hok; obtain ⟨o, k', _, g2, _⟩ := key k hok; simp only [renC, g2] at hx; cases hx
    | own k i => simp only [okC] at hok; obtain ⟨o, k', _, g2, _⟩ := key k hok; simp only [renC, g2] at hx; cases hx
    | elo k a b d => simp only [okC] at hok; obtain ⟨o, k', _, g2, _⟩ := key k hok; simp only [renC, g2] at hx; cases hx
    | _ => simp only [renC] at hx; cases hx
  | t h =>
    intro x hx hok
    cases x with
    | t x => simp only [renC] at hx; injection hx with hx; subst hx; exact .t h
    | ptr k i => simp only [renC] at hx; split at hx <;> cases hx
    | own k i => simp only [renC] at hx; split at hx <;> cases hx
    | elo k a b d => simp only [renC] at hx; split at hx <;> cases hx
    | _ => simp only [renC] at hx; cases hx
  | z a =>
    intro x hx hok
    cases x with
    | z => exact .z a
    | ptr k i => simp only [renC] at hx; split at hx <;> cases hx
    | own k i => simp only [renC] at hx; split at hx <;> cases hx
    | elo k a b d => simp only [renC] at hx; split at hx <;> cases hx
    | _ => simp only [renC] at hx; cases hx
  | ab b =>
    intro x hx hok
    cases x with
    | ab => exact .ab b
    | ptr k i => simp only [renC] at hx; split at hx <;> cases hx
    | own k i => simp only [renC] at hx; split at hx <;> cases hx
    | elo k a b d => simp only [renC] at hx; split at hx <;> cases hx
    | _ => simp only [renC] at hx; cases hx
  | ptr ho hm =>
    intro x hx hok
    cases x with
    | ptr k i =>
      simp only [okC] at hok
      obtain ⟨o, k', g1, g2, g3, g4⟩ := key k hok
      simp only [renC, g2] at hx
      injection hx with e1 e2
      subst e1; subst e2
      rw [ho] at g3; injection g3 with g3
      cases o with
      | var ty cells => exact .ptr g1 (g4.trans hm)
      | row ty n rows => cases g3
    | own k i => simp only [renC] at hx; split at hx <;> cases hx
    | elo k a b d => simp only [renC] at hx; split at hx <;> cases hx
    | _ => simp only [renC] at hx; cases hx
  | own ho h1 hl hv =>
    intro x hx hok
    cases x with
    | own k i =>
      simp only [okC] at hok
      obtain ⟨o, k', g1, g2, g3, g4⟩ := key k hok
      simp only [renC, g2] at hx
      injection hx with e1 e2
      subst e1; subst e2
      rw [ho] at g3; injection g3 with g3
      cases o with
      | var ty cells => cases g3
      | row ty n rows => injection g3 with a1 a2 a3; subst a1; subst a2; subst a3; exact .own g1 h1 hl (fun e => (hv e).trans g4.symm)
    | ptr k i => simp only [renC] at hx; split at hx <;> cases hx
    | elo k a b d => simp only [renC] at hx; split at hx <;> cases hx
    | _ => simp only [renC] at hx; cases hx
  | el vs hc hr =>
    intro x hx hok
    cases x with
    | el row j => simp only [renC] at hx; injection hx with e1 e2; subst e1; subst e2; exact .el vs hc hr
    | ptr k i => simp only [renC] at hx; split at hx <;> cases hx
    | own k i => simp only [renC] at hx; split at hx <;> cases hx
    | elo k a b d => simp only [renC] at hx; split at hx <;> cases hx
    | _ => simp only [renC] at hx; cases hx
  | elo ho h1 hl hv =>
    intro x hx hok
    cases x with
    | elo k a b d =>
      simp only [okC] at hok
      obtain ⟨o, k', g1, g2, g3, g4⟩ := key k hok
      simp only [renC, g2] at hx
      injection hx with e1 e2 e3 e4
      subst e1; subst e2; subst e3; subst e4
      rw [ho] at g3; injection g3 with g3
      cases o with
      | var ty cells => cases g3
      | row ty n rows =>
        injection g3 with a1 a2 a3; subst a1; subst a2; subst a3
        exact .elo g1 h1 hl (fun e => by
          obtain ⟨h2, b, cap, h3, h4⟩ := hv e
          exact ⟨h2, b, cap, g4.trans h3, h4⟩)
    | ptr k i => simp only [renC] at hx; split at hx <;> cases hx
    | own k a => simp only [renC] at hx; split at hx <;> cases hx
    | _ => simp only [renC] at hx; cases hx
  | fn f fs cs vs us h1 h2 hf hc ihf ihc =>
    intro x hx hok
    cases x with
    | fn f' fs' cs' =>
      simp only [renC] at hx
      injection hx with e1 e2 e3
      subst e1; subst e2; subst e3
      simp only [okC, Bool.and_eq_true] at hok
      rw [renL_len] at h1 h2 ihf ihc
      exact .fn f' fs' cs' vs us h1 h2 (fun i hi => ihf i hi _ (renL_get _ _ _).symm (okL_get _ _ hok.1)) (fun i hi => ihc i hi _ (renL_get _ _ _).symm (okL_get _ _ hok.2))
    | ptr k i => simp only [renC] at hx; split at hx <;> cases hx
    | own k a => simp only [renC] at hx; split at hx <;> cases hx
    | elo k a b d => simp only [renC] at hx; split at hx <;> cases hx
    | _ => simp only [renC] at hx; cases hx
theorem VRep.un {c : Cx} {H : AHeap} {w : World} {ps : List (Nat × Nat)} {m0 : Nat → Value} {H0 : AHeap} (h0 : ∀ j o, hget H0 j = some o → ∃ k, lk ps j = some k ∧ hget H k = some (renO ps o) ∧ m0 j = c.m k) {v : Value} {y : AV} (h : VRep c H w v y) : ∀ x, renAV ps x = y → okAV H0 x = true → VRep ⟨m0, c.A⟩ H0 w v x := by
  induction h with
  | dead v =>
    intro x hx hok
    cases x with
    | dead => exact .dead v
    | _ => simp only [renAV] at hx; cases hx
  | c h =>
    intro x hx hok
    cases x with
    | c x => simp only [renAV] at hx; injection hx with hx; exact .c (h.un h0 x hx hok)
    | _ => simp only [renAV] at hx; cases hx
  | agg cs l h1 h =>
    intro x hx hok
    cases x with
    | agg l' =>
      simp only [renAV] at hx
      injection hx with hx
      subst hx
      rw [renL_len] at h1 h
      exact .agg cs l' h1 (fun i hi => (h i hi).un h0 _ (renL_get _ _ _).symm (okL_get _ _ hok))
    | _ => simp only [renAV] at hx; cases hx
  | tup vs l h1 h ih =>
    intro x hx hok
    cases x with
    | tup l' =>
      simp only [renAV] at hx
      injection hx with hx
      subst hx
      rw [renAL_len] at h1 ih
      exact .tup vs l' h1 (fun i hi => ih i hi _ (renAL_get _ _ _).symm (okAL_get _ _ hok))
    | _ => simp only [renAV] at hx; cases hx
/-- from the callee's names to the caller's -/
theorem CRep.ren {c1 : Cx} {H1 : AHeap} {w : World} {ps : List (Nat × Nat)} {m' : Nat → Value} {H' : AHeap} (h0 : ∀ j k o, hget H1 j = some o → lk ps j = some k → hget H' k = some (renO ps o) ∧ m' k = c1.m j) {v : Value} {x : CV} (h : CRep c1 H1 w v x) : CRep ⟨m', c1.A⟩ H' w v (renC ps x) := by
  induction h with
  | dead v h => exact .dead v h
  | t h => exact .t h
  | z a => exact .z a
  | ab b => exact .ab b
  | ptr ho hm =>
    simp only [renC]
    split
    · rename_i k' hk
      obtain ⟨g1, g2⟩ := h0 _ _ _ ho hk
      exact .ptr g1 (g2.trans hm)
    · exact .dead _ rfl
  | own ho h1 hl hv =>
    simp only [renC]
    split
    · rename_i k' hk
      obtain ⟨g1, g2⟩ := h0 _ _ _ ho hk
      exact .own g1 h1 hl (fun e => (hv e).trans g2.symm)
    · exact .dead _ h1
  | el vs hc hr => exact .el vs hc hr
  | elo ho h1 hl hv =>
    simp only [renC]
    split
    · rename_i k' hk
      obtain ⟨g1, g2⟩ := h0 _ _ _ ho hk
      exact .elo g1 h1 hl (fun e => by
        obtain ⟨h2, b, cap, h3, h4⟩ := hv e
        exact ⟨h2, b, cap, g2.trans h3, h4⟩)
    · exact .dead _ h1
  | fn f fs cs vs us h1 h2 hf hc ihf ihc =>
    simp only [renC]
    exact .fn f _ _ vs us (by rw [renL_len]; exact h1) (by rw [renL_len]; exact h2) (fun i hi => by rw [renL_get]; rw [renL_len] at hi; exact ihf i hi) (fun i hi => by rw [renL_get]; rw [renL_len] at hi; exact ihc i hi)
theorem VRep.ren {c1 : Cx} {H1 : AHeap} {w : World} {ps : List (Nat × Nat)} {m' : Nat → Value} {H' : AHeap} (h0 : ∀ j k o, hget H1 j = some o → lk ps j = some k → hget H' k = some (renO ps o) ∧ m' k = c1.m j) {v : Value} {x : AV} (h : VRep c1 H1 w v x) : VRep ⟨m', c1.A⟩ H' w v (renAV ps x) := by
  induction h with
  | dead v => exact .dead v
  | c h => exact .c (h.ren h0)
  | agg cs l h1 h => exact .agg cs _ (by rw [renL_len]; exact h1) (fun i hi => by rw [renL_get]; rw [renL_len] at hi; exact (h i hi).ren h0)
  | tup vs l h1 h ih => exact .tup vs _ (by rw [renAL_len]; exact h1) (fun i hi => by rw [renAL_get]; rw [renAL_len] at hi; exact ih i hi)
/-- the caller's objects behind the call -/
def hputs (ps : List (Nat × Nat)) (H : AHeap) : AHeap → AHeap
  | [] => H
  | (j, o) :: t => match lk ps j with | some k => hset (hputs ps H t) k (renO ps o) | none => hputs ps H t
theorem hget_hputs {ps : List (Nat × Nat)} (h1 : one1 ps = true) (H : AHeap) : ∀ (H1 : AHeap) (k : Nat), hget (hputs ps H H1) k = match rl ps k with | some j => (match hget H1 j with | some o => some (renO ps o) | none => hget H k) | none => hget H k := by
  intro H1
  induction H1 with
  | nil =>
    intro k
    simp only [hputs, hget]
    split <;> rfl
  | cons p t ih =>
    obtain ⟨j, o⟩ := p
    intro k
    simp only [hputs]
    cases hj : lk ps j with
    | none =>
      simp only
      rw [ih]
      cases hk : rl ps k with
      | none => rfl
      | some j' =>
        simp only [hget]
        have hne : j ≠ j' := fun e => by
          subst e
          rw [(lk_rl ps h1 j k).2 hk] at hj; cases hj
        rw [if_neg hne]
    | some k0 =>
      simp only
      rw [hget_hset, ih]
      have hr := (lk_rl ps h1 j k0).1 hj
      by_cases e : k0 = k
      · subst e
        rw [if_pos rfl, hr]
        simp only [hget, if_true]
      · rw [if_neg e]
        cases hk : rl ps k with
        | none => rfl
        | some j' =>
          simp only [hget]
          have hne : j ≠ j' := fun e2 => by
            subst e2
            have := (lk_rl ps h1 j k).2 hk
            rw [hj] at this; injection this with this; exact e this
          rw [if_neg hne]
/-- what the callee is handed to change -/
def HandF (m : Nat → Value) (H0 : AHeap) : Nat → Prop := fun b => ∃ k, hget H0 k ≠ none ∧ blk (m k) = some b
def HandE (w : World) (c : Cx) (H0 : AHeap) : Ent := ⟨w, c.A, HandF c.m H0, c.m, H0⟩
/-- a function's law: of what it is handed in, and the objects H0 that it may change: what it hands back, and the objects behind it -/
def FxCall (P : Program) (f : FuncId) (args : List AV) (H0 : AHeap) (r : AV) (H1 : AHeap) : Prop :=
  ∀ (c : Cx) (w : World) (vals : List Value), Conc (HandE w c H0) c H0 w → vals.length = args.length → (∀ i, i < args.length → VRep c H0 w (vals.getD i undef) (args.getD i .dead)) →
    Calls P f vals.toArray w fun e w' => ∃ v c', e = .returned v ∧ Conc (HandE w c H0) c' H1 w' ∧ VRep c' H1 w' v r
/-- the names of the objects that are handed over -/
def HandW (ps : List (Nat × Nat)) (H : AHeap) : AHeap → Prop
  | [] => True
  | (j, o) :: t => (match lk ps j with | some k => hget H k = some (renO ps o) | none => False) ∧ HandW ps H t
theorem handW_get {ps : List (Nat × Nat)} {H : AHeap} : ∀ (H0 : AHeap), HandW ps H H0 → ∀ j o, hget H0 j = some o → ∃ k, lk ps j = some k ∧ hget H k = some (renO ps o) := by
  intro H0
  induction H0 with
  | nil => intro _ j o h; cases h
  | cons p t ih =>
    obtain ⟨q, u⟩ := p
    intro h j o hj
    obtain ⟨h1, h2⟩ := h
    unfold hget at hj
    by_cases e : q = j
    · rw [if_pos e] at hj; injection hj with hj; subst hj; subst e
      split at h1
      · rename_i k hk; exact ⟨k, hk, h1⟩
      · exact h1.elim
    · rw [if_neg e] at hj; exact ih h2 j o hj
/-- each name is of an object behind the call; a new object has a new name -/
def NewW (H0 H1 H : AHeap) : List (Nat × Nat) → Prop
  | [] => True
  | (a, b) :: t => ((hget H1 a).isSome = true ∧ ((hget H0 a).isSome = true ∨ hget H b = none)) ∧ NewW H0 H1 H t
theorem newW_get {H0 H1 H : AHeap} : ∀ (ps : List (Nat × Nat)), NewW H0 H1 H ps → ∀ j k, lk ps j = some k → (hget H1 j).isSome = true ∧ ((hget H0 j).isSome = true ∨ hget H k = none) := by
  intro ps
  induction ps with
  | nil => intro _ j k h; cases h
  | cons p t ih =>
    obtain ⟨a, b⟩ := p
    intro h j k hj
    unfold lk at hj
    by_cases e : a = j
    · rw [if_pos e] at hj; injection hj with hj; subst hj; subst e; exact h.1
    · rw [if_neg e] at hj; exact ih h.2 j k hj
def bigH (H0 : AHeap) : Bool := H0.all fun p => decide (1000 ≤ p.1)
theorem ObjRep.un {c : Cx} {H : AHeap} {w : World} {ps : List (Nat × Nat)} {m0 : Nat → Value} {H0 : AHeap} (h0 : ∀ j o, hget H0 j = some o → ∃ k, lk ps j = some k ∧ hget H k = some (renO ps o) ∧ m0 j = c.m k) {j k : Nat} {o : AObj} (hok : okObj H0 o = true) (hm : m0 j = c.m k) (h : ObjRep c H w k (renO ps o)) : ObjRep ⟨m0, c.A⟩ H0 w j o := by
  cases o with
  | var ty cells =>
    obtain ⟨b, cs, g1, g2, g3, g4, g5⟩ := h
    rw [renL_len] at g3 g4
    exact ⟨b, cs, hm.trans g1, g2, g3, fun i hi => (g4 i hi).un h0 _ (renL_get _ _ _).symm (okL_get _ _ hok), g5⟩
  | row ty n rows =>
    obtain ⟨g0, xs, g1, g2, g3⟩ := h
    have hm' : (⟨m0, c.A⟩ : Cx).m j = c.m k := hm
    exact ⟨g0, xs, by rw [hm']; exact g1, g2, fun b hb => g3 b (by rw [hm'] at hb; exact hb)⟩
theorem ObjRep.ren {c1 : Cx} {H1 : AHeap} {w : World} {ps : List (Nat × Nat)} {m' : Nat → Value} {H' : AHeap} (h0 : ∀ j k o, hget H1 j = some o → lk ps j = some k → hget H' k = some (renO ps o) ∧ m' k = c1.m j) {j k : Nat} {o : AObj} (hm : m' k = c1.m j) (h : ObjRep c1 H1 w j o) : ObjRep ⟨m', c1.A⟩ H' w k (renO ps o) := by
  cases o with
  | var ty cells =>
    obtain ⟨b, cs, g1, g2, g3, g4, g5⟩ := h
    exact ⟨b, cs, hm.trans g1, g2, by rw [renL_len]; exact g3, fun i hi => by rw [renL_get]; rw [renL_len] at hi; exact (g4 i hi).ren h0, g5⟩
  | row ty n rows =>
    obtain ⟨g0, xs, g1, g2, g3⟩ := h
    have hm' : (⟨m', c1.A⟩ : Cx).m k = c1.m j := hm
    exact ⟨g0, xs, by rw [hm']; exact g1, g2, fun b hb => g3 b (by rw [hm'] at hb; exact hb)⟩
/-- the way in -/
theorem hand_in {E : Ent} {c : Cx} {H : AHeap} {w : World} (hC : Conc E c H w) {ps : List (Nat × Nat)} {H0 : AHeap} (h1 : one1 ps = true) (hh : HandW ps H H0) (hok : H0.all (fun p => okObj H0 p.2) = true) (hbig : bigH H0 = true) :
    ∃ m0 : Nat → Value, (∀ j o, hget H0 j = some o → ∃ k, lk ps j = some k ∧ hget H k = some (renO ps o) ∧ m0 j = c.m k) ∧ Conc (HandE w ⟨m0, c.A⟩ H0) ⟨m0, c.A⟩ H0 w := by
  have h0 : ∀ j o, hget H0 j = some o → ∃ k, lk ps j = some k ∧ hget H k = some (renO ps o) ∧ (match lk ps j with | some k => c.m k | none => undef) = c.m k := fun j o h => by
    obtain ⟨k, h2, h3⟩ := handW_get H0 hh j o h
    exact ⟨k, h2, h3, by rw [h2]⟩
  have hnn : ∀ j, hget H0 j ≠ none → ∃ k o, lk ps j = some k ∧ hget H k = some o ∧ (match lk ps j with | some k => c.m k | none => undef) = c.m k := fun j h => by
    cases ho : hget H0 j with
    | none => exact absurd ho h
    | some o =>
      obtain ⟨k, g1, g2, g3⟩ := h0 j o ho
      exact ⟨k, _, g1, g2, g3⟩
  refine ⟨fun j => match lk ps j with | some k => c.m k | none => undef, h0, ⟨fun j o h => ?_, fun j j' b h h' hb hb' => ?_, hC.lt, fun b i h => ⟨?_, hC.lt b i h⟩, fun b i h => h, fun b i h => .inl h, fun j b h hb => .inl ⟨j, h, hb⟩, fun b _ _ => rfl, rfl, rfl, rfl, Nat.le_refl _, ⟨fun k o h => ?_, fun k ty cells h => ⟨cells, h, rfl⟩, fun k ty n rows h => ⟨rows, h, .inl ⟨rfl, rfl⟩⟩⟩⟩⟩
  · obtain ⟨k, g1, g2, g3⟩ := h0 j o h
    exact (hC.obj k _ g2).un h0 (List.all_eq_true.1 hok (j, o) (hget_mem _ _ _ h)) g3
  · obtain ⟨k, o, g1, g2, g3⟩ := hnn j h
    obtain ⟨k', o', g1', g2', g3'⟩ := hnn j' h'
    have hb2 : blk (c.m k) = some b := by rw [← g3]; exact hb
    have hb2' : blk (c.m k') = some b := by rw [← g3']; exact hb'
    have e := hC.inj k k' b (by rw [g2]; simp) (by rw [g2']; simp) hb2 hb2'
    subst e
    have e1 := (lk_rl ps h1 j k).1 g1
    have e2 := (lk_rl ps h1 j' k).1 g1'
    rw [e1] at e2; injection e2
  · rintro ⟨j, hj, hb⟩
    obtain ⟨k, o, g1, g2, g3⟩ := hnn j hj
    have hb2 : blk (c.m k) = some b := by rw [← g3]; exact hb
    exact (hC.obj k o g2).noA hb2 i h
  · exact of_decide_eq_true (List.all_eq_true.1 hbig (k, o) (hget_mem _ _ _ h))
/-- the way out -/
theorem hand_out {E : Ent} {c : Cx} {H : AHeap} {w w' : World} (hC : Conc E c H w) {ps : List (Nat × Nat)} {H0 H1 : AHeap} {m0 : Nat → Value} (h1 : one1 ps = true) (h0 : ∀ j o, hget H0 j = some o → ∃ k, lk ps j = some k ∧ hget H k = some (renO ps o) ∧ m0 j = c.m k)
    (hn : NewW H0 H1 H ps) {c1 : Cx} (hC1 : Conc (HandE w ⟨m0, c.A⟩ H0) c1 H1 w') :
    ∃ m' : Nat → Value, (∀ j k o, hget H1 j = some o → lk ps j = some k → hget (hputs ps H H1) k = some (renO ps o) ∧ m' k = c1.m j) ∧ Conc E ⟨m', c1.A⟩ (hputs ps H H1) w' ∧ Later c H w ⟨m', c1.A⟩ (hputs ps H H1) w' := by
  have hin : ∀ j k o, hget H1 j = some o → lk ps j = some k → hget (hputs ps H H1) k = some (renO ps o) ∧ (match rl ps k with | some j => c1.m j | none => c.m k) = c1.m j := fun j k o ho hk => by
    have hr := (lk_rl ps h1 j k).1 hk
    rw [hget_hputs h1, hr]
    simp only [ho, and_self]
  have hget1 : ∀ k j, rl ps k = some j → ∃ o, hget H1 j = some o ∧ hget (hputs ps H H1) k = some (renO ps o) := fun k j hk => by
    have hl := (lk_rl ps h1 j k).2 hk
    obtain ⟨g1, _⟩ := newW_get ps hn j k hl
    obtain ⟨o, ho⟩ := Option.isSome_iff_exists.1 g1
    exact ⟨o, ho, (hin j k o ho hl).1⟩
  have hget2 : ∀ k, rl ps k = none → hget (hputs ps H H1) k = hget H k := fun k hk => by rw [hget_hputs h1, hk]
  -- whose blocks these are
  have hF : ∀ b, HandF m0 H0 b → ∃ k o j, hget H k = some o ∧ rl ps k = some j ∧ blk (c.m k) = some b := fun b ⟨j, hj, hb⟩ => by
    cases ho : hget H0 j with
    | none => exact absurd ho hj
    | some o =>
      obtain ⟨k, g1, g2, g3⟩ := h0 j o ho
      exact ⟨k, _, j, g2, (lk_rl ps h1 j k).1 g1, by rw [← g3]; exact hb⟩
  have hFE : ∀ b, HandF m0 H0 b → E.F b ∨ E.w.heap.size ≤ b := fun b hb => by
    obtain ⟨k, o, j, g1, _, g3⟩ := hF b hb
    exact hC.own k b (by rw [g1]; simp) g3
  have hFo : ∀ k o b, hget H k = some o → rl ps k = none → blk (c.m k) = some b → ¬ HandF m0 H0 b := fun k o b ho hk hb hf => by
    obtain ⟨k', o', j, g1, g2, g3⟩ := hF b hf
    have e := hC.inj k k' b (by rw [ho]; simp) (by rw [g1]; simp) hb g3
    subst e
    rw [hk] at g2; cases g2
  have hkeep : ∀ b, b < w.heap.size → ¬ HandF m0 H0 b → w'.heap[b]? = w.heap[b]? := fun b h2 h3 => hC1.keep b h2 h3
  have hcell : ∀ b i v, c.A b i → w.cell? ⟨b, i, none⟩ = some v → c1.A b i ∧ w'.cell? ⟨b, i, none⟩ = some v := fun b i v h2 h3 => by
    refine ⟨hC1.le b i h2, ?_⟩
    obtain ⟨h4, h5⟩ := hC1.ent b i h2
    rw [World.cell?_of_block (w := w) (a := ⟨b, i, none⟩) (hkeep b h5 h4)]; exact h3
  have hl : Later c H w ⟨fun k => match rl ps k with | some j => c1.m j | none => c.m k, c1.A⟩ (hputs ps H H1) w' := by
    refine ⟨fun k ty cells h => ?_, fun k ty n rows h => ?_, hcell⟩
    · cases hk : rl ps k with
      | none => exact ⟨cells, by rw [hget2 k hk]; exact h, by simp only [hk]⟩
      | some j =>
        have hlj := (lk_rl ps h1 j k).2 hk
        obtain ⟨_, g2⟩ := newW_get ps hn j k hlj
        rcases g2 with g2 | g2
        · obtain ⟨o, ho⟩ := Option.isSome_iff_exists.1 g2
          obtain ⟨k', e1, e2, e3⟩ := h0 j o ho
          rw [hlj] at e1; injection e1 with e1; subst e1
          rw [h] at e2; injection e2 with e2
          cases o with
          | row _ _ _ => cases e2
          | var ty' cells' =>
            injection e2 with a1 a2
            subst a1
            obtain ⟨cells2, p1, p2⟩ := hC1.pin.var j _ _ ho
            exact ⟨renL ps cells2, (hin j k _ p1 hlj).1, by simp only [hk]; exact p2.trans e3⟩
        · rw [g2] at h; cases h
    · cases hk : rl ps k with
      | none => exact ⟨rows, by rw [hget2 k hk]; exact h, .inl ⟨rfl, by simp only [hk]⟩⟩
      | some j =>
        have hlj := (lk_rl ps h1 j k).2 hk
        obtain ⟨_, g2⟩ := newW_get ps hn j k hlj
        rcases g2 with g2 | g2
        · obtain ⟨o, ho⟩ := Option.isSome_iff_exists.1 g2
          obtain ⟨k', e1, e2, e3⟩ := h0 j o ho
          rw [hlj] at e1; injection e1 with e1; subst e1
          rw [h] at e2; injection e2 with e2
          cases o with
          | var _ _ => cases e2
          | row ty' n' rows' =>
            injection e2 with a1 a2 a3
            subst a1; subst a2; subst a3
            obtain ⟨rows2, p1, p2⟩ := hC1.pin.row j _ _ _ ho
            refine ⟨rows2, (hin j k _ p1 hlj).1, ?_⟩
            rcases p2 with ⟨p2, p3⟩ | p2
            · exact .inl ⟨p2, by simp only [hk]; exact p3.trans e3⟩
            · exact .inr p2
        · rw [g2] at h; cases h
  refine ⟨fun k => match rl ps k with | some j => c1.m j | none => c.m k, hin, ⟨fun k o h => ?_, fun k k' b h h' hb hb' => ?_, hC1.lt, hC.ent, fun b i h => hC1.le b i (hC.le b i h), fun b i h => ?_, fun k b h hb => ?_, fun b h2 h3 => ?_, hC1.os.trans hC.os, hC1.tape.trans hC.tape, hC1.output.trans hC.output, Nat.le_trans hC.size hC1.size, hC.pin.step hl⟩, hl⟩
  · cases hk : rl ps k with
    | none =>
      rw [hget2 k hk] at h
      have ho := hC.obj k o h
      refine ho.later hl (by simp only [hk]) (fun b hb => hkeep b (ho.blk_lt hb) (hFo k o b h hk hb)) (fun b i hb hA => ?_)
      rcases hC1.new b i hA with g | g | g
      · exact ho.noA hb i g
      · have := ho.blk_lt hb
        have g' : w.heap.size ≤ b := g
        omega
      · exact hFo k o b h hk hb g
    | some j =>
      obtain ⟨o', ho', he⟩ := hget1 k j hk
      rw [he] at h; injection h with h; subst h
      exact (hC1.obj j o' ho').ren hin (by simp only [hk])
  · have side : ∀ k, hget (hputs ps H H1) k ≠ none → rl ps k = none → hget H k ≠ none := fun k h hk => by rw [hget2 k hk] at h; exact h
    have mix : ∀ k k' b j, hget H k ≠ none → rl ps k = none → rl ps k' = some j → blk (c.m k) = some b → blk (c1.m j) = some b → False := fun k k' b j h hk hk' hb hb' => by
      cases ho : hget H k with
      | none => exact h ho
      | some o =>
        obtain ⟨o', ho', _⟩ := hget1 k' j hk'
        rcases hC1.own j b (by rw [ho']; simp) hb' with g | g
        · exact hFo k o b ho hk hb g
        · have := (hC.obj k o ho).blk_lt hb
          have g' : w.heap.size ≤ b := g
          omega
    cases hk : rl ps k with
    | none =>
      cases hk' : rl ps k' with
      | none =>
        simp only [hk] at hb
        simp only [hk'] at hb'
        exact hC.inj k k' b (side k h hk) (side k' h' hk') hb hb'
      | some j' =>
        simp only [hk] at hb
        simp only [hk'] at hb'
        exact (mix k k' b j' (side k h hk) hk hk' hb hb').elim
    | some j =>
      cases hk' : rl ps k' with
      | none =>
        simp only [hk] at hb
        simp only [hk'] at hb'
        exact (mix k' k b j (side k' h' hk') hk' hk hb' hb).elim
      | some j' =>
        simp only [hk] at hb
        simp only [hk'] at hb'
        obtain ⟨o, ho, _⟩ := hget1 k j hk
        obtain ⟨o', ho', _⟩ := hget1 k' j' hk'
        have e := hC1.inj j j' b (by rw [ho]; simp) (by rw [ho']; simp) hb hb'
        subst e
        have e1 := (lk_rl ps h1 j k).2 hk
        have e2 := (lk_rl ps h1 j k').2 hk'
        rw [e1] at e2; injection e2
  · rcases hC1.new b i h with g | g | g
    · exact hC.new b i g
    · exact .inr (.inl (Nat.le_trans hC.size g))
    · exact .inr ((hFE b g).symm)
  · cases hk : rl ps k with
    | none =>
      simp only [hk] at hb
      rw [hget2 k hk] at h
      exact hC.own k b h hb
    | some j =>
      simp only [hk] at hb
      obtain ⟨o, ho, _⟩ := hget1 k j hk
      rcases hC1.own j b (by rw [ho]; simp) hb with g | g
      · exact hFE b g
      · exact .inr (Nat.le_trans hC.size g)
  · have hnF : ¬ HandF m0 H0 b := fun g => by
      rcases hFE b g with g | g
      · exact h3 g
      · omega
    rw [hkeep b (Nat.lt_of_lt_of_le h2 hC.size) hnF]
    exact hC.keep b h2 h3
section
variable {P : Program} {dst : Option Tmp} {ty0 : TypeId} {pos : String} {af : Array Edge} {g : Option (Nat × Bool)} {ρ : Operand → AV} {H : AHeap}
theorem step_callG (f : FuncId) (xs : List Operand) {args : List AV} {r : AV} {H0 H1 : AHeap} {ats : Array TypeId} (hG : goB P f = true) (h : FxCall P f args H0 r H1) (ps : List (Nat × Nat)) (h1 : one1 ps = true) (hc : CoeA (xs.map ρ) (renAL ps args)) (hok : okAL H0 args = true)
    (hh : HandW ps H H0) (hoo : H0.all (fun p => okObj H0 p.2) = true) (hbig : bigH H0 = true) (hn : NewW H0 H1 H ps) : StepK P .w ⟨dst, .call { callee := .value (.func f), args := xs.toArray, argTypes := ats }, ty0, pos, af, g⟩ ρ H (hputs ps H H1) (renAV ps r) := by
  intro E c a w K Q hC hx hK
  obtain ⟨m0, h0, hC0⟩ := hand_in hC h1 hh hoo hbig
  have hlen : args.length = xs.length := by have := hc.get.1; rw [renAL_len] at this; simp at this; omega
  have hargs : ∀ i, i < args.length → VRep ⟨m0, c.A⟩ H0 w ((xs.map a.eval).getD i undef) (args.getD i .dead) := fun i hi => by
    have hi' : i < xs.length := by omega
    have h1 := hx xs[i] (by simp [Op.operands, Call.operands])
    have h2 := hc.get.2 i (by rw [renAL_len]; exact hi) c H w (a.eval xs[i]) (by
      have e : (xs.map ρ).getD i .dead = ρ xs[i] := by simp [List.getD_eq_getElem?_getD, List.getElem?_map, List.getElem?_eq_getElem hi']
      rw [e]; exact h1)
    have e : (xs.map a.eval).getD i undef = a.eval xs[i] := by simp [List.getD_eq_getElem?_getD, List.getElem?_map, List.getElem?_eq_getElem hi']
    rw [e]
    exact h2.un h0 _ (renAL_get _ _ _).symm (okAL_get _ _ hok)
  have hcall := h ⟨m0, c.A⟩ w (xs.map a.eval) hC0 (by simp [hlen]) hargs
  unfold Oper.wp
  have hrun : (execOp a.eval ⟨dst, .call { callee := .value (.func f), args := xs.toArray, argTypes := ats }, ty0, pos, af, g⟩).run P w = .ok (.enter f (xs.map a.eval).toArray) w := by
    simp [execOp, resolve, Deferred.ofValue, invoke, Act.eval, run_callFunc hG]
  rw [hrun]
  show Calls P f _ w _
  refine hcall.mono ?_
  rintro e w' ⟨v, c1, rfl, g1, g2⟩
  obtain ⟨m', k1, k2, k3⟩ := hand_out hC h1 h0 hn g1
  exact hK v ⟨m', c1.A⟩ w' k2 k3 (g2.ren k1)
/-- what is handed back, and the objects behind the call -/
def retG (P : Program) (rs : List ResultVar) (r : AV) (H1 : AHeap) : AEx → ASt → Prop
  | .exit _, _ => False
  | _, s => ∃ xs, ResL P s rs xs ∧ Coe (resOf xs) r ∧ okAV H1 r = true ∧ (∀ p ∈ H1, hget s.hp p.1 = some p.2) ∧ H1.all (fun p => okObj H1 p.2) = true ∧ PinW H1 s.hp
/-- a function's law, from its body's -/
theorem fx_call {f : FuncId} {fn : Func} {code : Code} {rs : List ResultVar} (n : Nat) {args : List AV} {r : AV} {H0 H1 : AHeap} (hf : P.funcs[f]? = some fn) (hb : fn.body = some code) (hr : fn.results = rs.toArray) (hn : args.length + (fn.ntmps - args.length) = n) (h : (∀ x ∈ args, LenAV x) → awp P n code (retG P rs r H1) ⟨slotsFrom 0 args, H0⟩) : FxCall P f args H0 r H1 := by
  intro c w vals hC hvl hv
  refine calls_of_wp hf hb ?_
  have hS : SlotsRep c H0 w { tmps := vals.toArray ++ Array.replicate (fn.ntmps - vals.toArray.size) undef, defers := [] } (slotsFrom 0 args) := fun t => by
    rw [slotsFrom_get, if_pos (Nat.zero_le _), Nat.sub_zero]
    by_cases ht : t < args.length
    · have := hv t ht
      have e : (vals.toArray ++ Array.replicate (fn.ntmps - vals.toArray.size) undef).getD t undef = vals.getD t undef := by
        have ht' : t < vals.length := by omega
        simp [List.getD_eq_getElem?_getD, Array.getElem?_append, ht']
      rw [e]; exact this
    · have e : args.getD t .dead = .dead := by simp [List.getD_eq_getElem?_getD]; rw [List.getElem?_eq_none (by omega)]; rfl
      rw [e]; exact .dead _
  have hlens : ∀ x ∈ args, LenAV x := fun x hx => by
    obtain ⟨i, hi, e⟩ := List.mem_iff_getElem.1 hx
    have := lens_of (hv i hi)
    simpa [List.getD_eq_getElem?_getD, List.getElem?_eq_getElem hi, e] using this
  have ht : Told n (HandE w c H0) ⟨slotsFrom 0 args, H0⟩ { tmps := vals.toArray ++ Array.replicate (fn.ntmps - vals.toArray.size) undef, defers := [] } w := ⟨⟨_, hC, hS⟩, by simp [hvl]; omega, rfl⟩
  have fin : ∀ a' w' s', Told n (HandE w c H0) s' a' w' → (∃ xs, ResL P s' rs xs ∧ Coe (resOf xs) r ∧ okAV H1 r = true ∧ (∀ p ∈ H1, hget s'.hp p.1 = some p.2) ∧ H1.all (fun p => okObj H1 p.2) = true ∧ PinW H1 s'.hp) → a'.defers = [] ∧ ∃ v, (results fn a'.tmps).run P w' = .ok v w' ∧ ∃ v1 c', Ending.returned v = .returned v1 ∧ Conc (HandE w c H0) c' H1 w' ∧ VRep c' H1 w' v1 r := by
    rintro a' w' s' ⟨⟨c', hC', hS'⟩, _, hd⟩ ⟨xs, hx, hco, hkr, hsub, hoo, hpin⟩
    obtain ⟨vs, h1, h2, h3⟩ := resL_run hC' hS' hx
    have hres : (results fn a'.tmps).run P w' = .ok (if h : vs.toArray.size = 1 then vs.toArray[0] else .tuple vs.toArray) w' := by
      unfold results
      rw [hr, Array.mapM_eq_mapM_toList]
      simp only [map_eq_pure_bind, Sem.run_bind]
      erw [h1]
      simp only [Result.andThen_ok, Sem.run_pure]
    have hval : VRep c' s'.hp w' (if h : vs.toArray.size = 1 then vs.toArray[0] else .tuple vs.toArray) (resOf xs) := by
      by_cases h : vs.toArray.size = 1
      · rw [dif_pos h]
        have hx1 : xs.length = 1 := by rw [← h2]; simpa using h
        obtain ⟨x, hx2⟩ := List.length_eq_one_iff.1 hx1
        have hv1 : vs.length = 1 := by simpa using h
        have := h3 0 (by omega)
        rw [hx2] at this ⊢
        simpa [resOf, List.getD_eq_getElem?_getD, hv1] using this
      · rw [dif_neg h]
        have hx1 : xs.length ≠ 1 := by rw [← h2]; simpa using h
        have e : resOf xs = .tup xs := by
          rcases xs with _ | ⟨x, _ | ⟨y, t⟩⟩
          · rfl
          · exact absurd rfl hx1
          · rfl
        rw [e]
        exact .tup vs xs h2 h3
    have hs : SubH H1 s'.hp := fun k o hk => hsub (k, o) (hget_mem _ _ _ hk)
    refine ⟨hd, _, hres, _, c', rfl, hC'.weak hs hpin hoo, ?_⟩
    exact (hco _ _ _ _ hval).sub (m := c'.m) (A' := c'.A) hs (fun _ _ _ => rfl) (fun _ _ h => h) hkr
  refine Code.wp_mono (fun e a' w' hq => ?_) (h hlens (HandE w c H0) _ w ht)
  cases e <;> first | exact hq.elim | skip
  · obtain ⟨s', h1, h2⟩ := hq; exact fin a' w' s' h1 h2
  · obtain ⟨s', h1, h2⟩ := hq; exact h2.elim
  · obtain ⟨s', h1, h2⟩ := hq; exact fin a' w' s' h1 h2
end
end Go.Proofs.Ytiimkhnngpfnbaa.Fx
