/- The operations as a function on states, with what is to be shown on the way: for go_simp. No program in sight. -/
import Derived.Test.YtoebfmhogkjmgaaGreatDoorFxK
import Derived.Laws.Cover3
namespace Go.Proofs.YtoebfmhogkjmgaaGreatDoor.Fx
open Go.RowKit
set_option linter.unusedVariables false
set_option linter.unusedSimpArgs false
attribute [go_sem] sget sset sput ev constAV hget hset hdel takeAV cellsAV slotsFrom splice exC exL exAV fillA treeC treeL treesAV rowsOf wanted1
def shp (P : Program) (ty : TypeId) : Option (Bool × Nat) :=
  match P.underlying ty, P.info? ty with
  | some (.struct _), some i => some (true, i.size)
  | some (.array _ _), some i => some (true, i.size)
  | some _, some i => some (false, i.size)
  | _, _ => none
theorem shp_ok {P : Program} {ty : TypeId} {agg : Bool} {n : Nat} (h : shp P ty = some (agg, n)) : shapeB P ty agg n = true := by
  unfold shp at h
  unfold shapeB
  cases hu : P.underlying ty with
  | none => rw [hu] at h; cases h
  | some d =>
    cases hi : P.info? ty with
    | none => rw [hu, hi] at h; cases d <;> cases h
    | some i =>
      rw [hu, hi] at h
      cases d <;> (simp only [Option.some.injEq, Prod.mk.injEq] at h; obtain ⟨rfl, rfl⟩ := h; simp)
def sli (P : Program) (ty : TypeId) : Option (TypeId × Nat × Nat) :=
  match P.underlying ty with
  | some (.slice e) => match P.info? e with
    | some i => match i.zero with
      | some z => if z.cells.size = i.size ∧ 0 < i.size then some (e, i.size, i.bytes) else none
      | none => none
    | none => none
  | _ => none
theorem sli_ok {P : Program} {ty e : TypeId} {n b : Nat} (h : sli P ty = some (e, n, b)) : sliB P ty e n b = true := by
  unfold sli at h
  unfold sliB
  cases hu : P.underlying ty with
  | none => rw [hu] at h; cases h
  | some d =>
    rw [hu] at h
    cases d <;> first | (cases h; done) | skip
    rename_i e'
    simp only at h
    cases hi : P.info? e' with
    | none => rw [hi] at h; cases h
    | some i =>
      rw [hi] at h
      simp only at h
      cases hz : i.zero with
      | none => rw [hz] at h; cases h
      | some z =>
        rw [hz] at h
        simp only at h
        split at h
        · rename_i hc
          simp only [Option.some.injEq, Prod.mk.injEq] at h
          obtain ⟨rfl, rfl, rfl⟩ := h
          simp [hi, hz, hc]
        · cases h
def fld (P : Program) (ty : TypeId) (f : Nat) : Option (Nat × Nat × Bool) :=
  match P.underlying ty with
  | some (.struct fs) => match fs[f]? with
    | some d => match shp P d.type with
      | some (agg, n) => if 0 < n then some (d.offset, n, agg) else none
      | none => none
    | none => none
  | _ => none
theorem fld_ok {P : Program} {ty : TypeId} {f off n : Nat} {agg : Bool} (h : fld P ty f = some (off, n, agg)) : fldB P ty f off n agg = true := by
  unfold fld at h
  unfold fldB
  cases hu : P.underlying ty with
  | none => rw [hu] at h; cases h
  | some d =>
    rw [hu] at h
    cases d <;> first | (cases h; done) | skip
    rename_i fs
    simp only at h ⊢
    cases hd : fs[f]? with
    | none => rw [hd] at h; cases h
    | some d =>
      rw [hd] at h
      simp only at h ⊢
      cases hs : shp P d.type with
      | none => rw [hs] at h; cases h
      | some q =>
        obtain ⟨agg', n'⟩ := q
        rw [hs] at h
        simp only at h
        split at h
        · rename_i hc
          simp only [Option.some.injEq, Prod.mk.injEq] at h
          obtain ⟨rfl, rfl, rfl⟩ := h
          simp [shp_ok hs, hc]
        · cases h
def stc (P : Program) (ty : TypeId) : Option (List (Nat × Nat) × List Value) :=
  match P.underlying ty, P.info? ty with
  | some (.struct fs), some i => match i.zero with
    | some z => if (z.cells.toList.all (·.oneCell') && fs.toList.all (fun f => (P.info? f.type).isSome)) = true then some (fs.toList.map (fun f => (f.offset, ((P.info? f.type).map (·.size)).getD 0)), z.cells.toList) else none
    | none => none
  | _, _ => none
theorem stc_ok {P : Program} {ty : TypeId} {l : List (Nat × Nat)} {z : List Value} (h : stc P ty = some (l, z)) : placesB P ty l = true ∧ (P.info? ty).map (fun i => i.zero.map (fun z => z.cells.toList)) = some (some z) ∧ z.all (·.oneCell') = true := by
  unfold stc at h
  unfold placesB
  cases hu : P.underlying ty with
  | none => rw [hu] at h; cases h
  | some d =>
    cases hi : P.info? ty with
    | none => rw [hu, hi] at h; cases d <;> cases h
    | some i =>
      rw [hu, hi] at h
      cases d <;> first | (cases h; done) | skip
      rename_i fs
      simp only at h ⊢
      cases hz : i.zero with
      | none => rw [hz] at h; cases h
      | some zv =>
        rw [hz] at h
        simp only at h
        split at h
        · rename_i hc
          rw [Bool.and_eq_true] at hc
          simp only [Option.some.injEq, Prod.mk.injEq] at h
          obtain ⟨rfl, rfl⟩ := h
          refine ⟨?_, by simp [hz], hc.1⟩
          rw [beq_iff_eq, List.map_map]
          apply List.map_congr_left
          intro f hf
          have := List.all_eq_true.1 hc.2 f hf
          obtain ⟨inf, hinf⟩ := Option.isSome_iff_exists.1 this
          simp [hinf]
        · cases h
def zro (P : Program) (ty : TypeId) : Option (List Value) :=
  match P.info? ty with
  | some i => match i.zero with
    | some z => if z.cells.toList.all (·.oneCell') = true then some z.cells.toList else none
    | none => none
  | none => none
theorem zro_ok {P : Program} {ty : TypeId} {z : List Value} (h : zro P ty = some z) : (P.info? ty).map (fun i => i.zero.map (fun z => z.cells.toList)) = some (some z) ∧ z.all (·.oneCell') = true := by
  unfold zro at h
  cases hi : P.info? ty with
  | none => rw [hi] at h; cases h
  | some i =>
    rw [hi] at h
    simp only at h
    cases hz : i.zero with
    | none => rw [hz] at h; cases h
    | some zv =>
      rw [hz] at h
      simp only at h
      split at h
      · rename_i hc; injection h with h; subst h; exact ⟨by simp [hz], hc⟩
      · cases h
def arr (P : Program) (ty : TypeId) : Option (Nat × Nat) :=
  match P.underlying ty with
  | some (.array l e) => match P.info? e with
    | some i => some (l, i.size)
    | none => none
  | _ => none
theorem arr_ok {P : Program} {ty : TypeId} {len n : Nat} (h : arr P ty = some (len, n)) : ∃ e, P.underlying ty = some (.array len e) ∧ ∃ i, P.info? e = some i ∧ i.size = n := by
  unfold arr at h
  cases hu : P.underlying ty with
  | none => rw [hu] at h; cases h
  | some d =>
    rw [hu] at h
    cases d <;> first | (cases h; done) | skip
    rename_i l e
    simp only at h
    cases hi : P.info? e with
    | none => rw [hi] at h; cases h
    | some i =>
      rw [hi] at h
      simp only [Option.some.injEq, Prod.mk.injEq] at h
      obtain ⟨rfl, rfl⟩ := h
      exact ⟨e, rfl, i, hi, rfl⟩
theorem wrap_u64 {n : Int} (h : 0 ≤ n ∧ n ≤ 18446744073709551615) : IntKind.u64.wrap n = n := by
  unfold IntKind.wrap; simp [IntKind.bits, IntKind.signed]; omega
theorem wrap_u32 {n : Int} (h : 0 ≤ n ∧ n ≤ 4294967295) : IntKind.u32.wrap n = n := by
  unfold IntKind.wrap; simp [IntKind.bits, IntKind.signed]; omega
theorem wrap_u8 {n : Int} (h : 0 ≤ n ∧ n ≤ 255) : IntKind.u8.wrap n = n := by
  unfold IntKind.wrap; simp [IntKind.bits, IntKind.signed]; omega
theorem wrap_i64 {n : Int} (h : -9223372036854775808 ≤ n ∧ n ≤ 9223372036854775807) : IntKind.i64.wrap n = n := by
  unfold IntKind.wrap; simp [IntKind.bits, IntKind.signed]; omega
theorem dT {p : Prop} [Decidable p] (h : p) : decide p = true := decide_eq_true h
theorem dF {p : Prop} [Decidable p] (h : ¬ p) : decide p = false := decide_eq_false h
theorem nT : (!true) = false := rfl
theorem nF : (!false) = true := rfl
theorem wA {n : Int} (h : 0 ≤ n ∧ n ≤ 18446744073709551615) : IntKind.u64.wrap n = n := wrap_u64 h
theorem wB {n : Int} (h : -9223372036854775808 ≤ n ∧ n ≤ 9223372036854775807) : IntKind.i64.wrap n = n := wrap_i64 h
theorem wC {n : Int} (h : 0 ≤ n ∧ n ≤ 4294967295) : IntKind.u32.wrap n = n := wrap_u32 h
theorem wD {n : Int} (h : 0 ≤ n ∧ n ≤ 255) : IntKind.u8.wrap n = n := wrap_u8 h
def bad : Prop × AV := (False, .dead)
@[go_sem] def loadV (P : Program) (H : AHeap) (ty : TypeId) (x : AV) : Prop × AV :=
  match shp P ty, x with
  | some (agg, n), .c (.ptr k i) => match hget H k with
    | some (.var _ cells) => ((agg = false → n = 1) ∧ i + n ≤ cells.length, takeAV agg n cells i)
    | _ => bad
  | some (agg, n), .c (.el row i) => ((agg = false → n = 1) ∧ i + n ≤ row.length, takeAV agg n (row.map .t) i)
  | some (agg, n), .c (.t (.p row)) => ((agg = false → n = 1) ∧ n ≤ row.length, takeAV agg n (row.map .t) 0)
  | some (agg, n), .c (.elo k len i j) => match hget H k with
    | some (.row _ _ rows) => ((agg = false → n = 1) ∧ len = rows.length ∧ j + n ≤ (rows.getD i []).length, takeAV agg n ((rows.getD i []).map .t) j)
    | _ => bad
  | _, _ => bad
@[go_sem] def fieldAddrV (P : Program) (H : AHeap) (ty : TypeId) (x : AV) (f : Nat) : Prop × AV :=
  match fld P ty f, x with
  | some (off, _, _), .c (.ptr k i) => (True, .c (.ptr k (i + off)))
  | some (off, _, _), .c (.el row j) => (True, .c (.el row (j + off)))
  | some (off, _, _), .c (.t (.p row)) => (True, .c (.el row off))
  | some (off, _, _), .c (.elo k len i j) => match hget H k with
    | some (.row _ _ rows) => (len = rows.length, .c (.elo k len i (j + off)))
    | _ => bad
  | _, _ => bad
@[go_sem] def indexAddrV (P : Program) (H : AHeap) (ty : TypeId) (x ix : AV) : Prop × AV :=
  match sli P ty, x, ix with
  | some (_, n, _), .c (.t (.s rows)), .c (.t (.v (.int _ i))) => (0 ≤ i ∧ i < rows.length ∧ (rows.getD i.toNat []).length = n, .c (.el (rows.getD i.toNat []) 0))
  | some (_, n, _), .c (.own k len), .c (.t (.v (.int _ i))) => match hget H k with
    | some (.row _ n' rows) => (len = rows.length ∧ n = n' ∧ 0 ≤ i ∧ i < len, .c (.elo k len i.toNat 0))
    | _ => bad
  | none, .c (.el row j), .c (.t (.v (.int _ i))) => match arr P ty with
    | some (len, n) => (0 ≤ i ∧ i < len, .c (.el row (j + i.toNat * n)))
    | none => bad
  | none, .c (.ptr k j), .c (.t (.v (.int _ i))) => match arr P ty with
    | some (len, n) => (0 ≤ i ∧ i < len, .c (.ptr k (j + i.toNat * n)))
    | none => bad
  | _, _, _ => bad
@[go_sem] def lenV (P : Program) (H : AHeap) (ty : TypeId) (x : AV) : Prop × AV :=
  match x with
  | .c (.t (.s rows)) => ((sli P ty).isSome = true, .c (.t (.v (.int .i64 rows.length))))
  | .c (.own k len) => match hget H k with
    | some (.row _ _ rows) => ((sli P ty).isSome = true ∧ len = rows.length, .c (.t (.v (.int .i64 len))))
    | _ => bad
  | .c (.t (.v (.slice none 0 0))) => ((sli P ty).isSome = true, .c (.t (.v (.int .i64 0))))
  | .c .z => ((sli P ty).isSome = true, .c (.t (.v (.int .i64 0))))
  | .c (.t (.v (.string s))) => (P.underlying ty = some .string, .c (.t (.v (.int .i64 s.size))))
  | _ => bad
def inK (k : IntKind) (n : Int) : Prop := k.min ≤ n ∧ n ≤ k.max
@[go_sem] theorem inK_i64 (n : Int) : inK .i64 n = (-9223372036854775808 ≤ n ∧ n ≤ 9223372036854775807) := by simp [inK, IntKind.min, IntKind.max, IntKind.bits, IntKind.signed]
@[go_sem] theorem inK_u8 (n : Int) : inK .u8 n = (0 ≤ n ∧ n ≤ 255) := by simp [inK, IntKind.min, IntKind.max, IntKind.bits, IntKind.signed]
@[go_sem] theorem inK_u32 (n : Int) : inK .u32 n = (0 ≤ n ∧ n ≤ 4294967295) := by simp [inK, IntKind.min, IntKind.max, IntKind.bits, IntKind.signed]
@[go_sem] theorem inK_u64 (n : Int) : inK .u64 n = (0 ≤ n ∧ n ≤ 18446744073709551615) := by simp [inK, IntKind.min, IntKind.max, IntKind.bits, IntKind.signed]
theorem wrap_inK {k : IntKind} {n : Int} (h : inK k n) : k.wrap n = n := by
  unfold inK IntKind.min IntKind.max at h
  unfold IntKind.wrap
  cases k <;> simp [IntKind.bits, IntKind.signed] at h ⊢ <;> omega
@[go_sem] def intB (op : BinOp) (k : IntKind) (a b : Int) : Prop × AV :=
  match op with
  | .add => (inK k (a + b), .c (.t (.v (.int k (a + b)))))
  | .sub => (inK k (a - b), .c (.t (.v (.int k (a - b)))))
  | .mul => (inK k (a * b), .c (.t (.v (.int k (a * b)))))
  | .eql => (True, .c (.t (.v (.bool (decide (a = b))))))
  | .neq => (True, .c (.t (.v (.bool (!decide (a = b))))))
  | .lss => (True, .c (.t (.v (.bool (decide (a < b))))))
  | .leq => (True, .c (.t (.v (.bool (decide (a ≤ b))))))
  | .gtr => (True, .c (.t (.v (.bool (decide (a > b))))))
  | .geq => (True, .c (.t (.v (.bool (decide (a ≥ b))))))
  | .quo => (b ≠ 0, .c (.t (.v (.int k (k.wrap (a.tdiv b))))))
  | .rem => (b ≠ 0, .c (.t (.v (.int k (a.tmod b)))))
  | .and => (True, .c (.t (.v (.int k (bits .and k a b)))))
  | .or => (True, .c (.t (.v (.int k (bits .or k a b)))))
  | .xor => (True, .c (.t (.v (.int k (bits .xor k a b)))))
  | .andNot => (True, .c (.t (.v (.int k (bits .andNot k a b)))))
  | _ => bad
@[go_sem] def isShift (op : BinOp) : Bool :=
  match op with
  | .shl => true
  | .shr => true
  | _ => false
@[go_sem] def shiftB (op : BinOp) (k : IntKind) (a b : Int) : Prop × AV :=
  match op with
  | .shl => (0 ≤ b, .c (.t (.v (.int k (k.wrap (a * 2 ^ (min b.toNat k.bits)))))))
  | .shr => (0 ≤ b, .c (.t (.v (.int k (a.fdiv (2 ^ (min b.toNat k.bits)))))))
  | _ => bad
@[go_sem] def strB (op : BinOp) (a b : ByteArray) : Prop × AV :=
  match op with
  | .add => (((a.size + b.size : Nat) : Int) ≤ 9223372036854775807, .c (.t (.v (.string (a ++ b)))))
  | .eql => (True, .c (.t (.v (.bool (a.toList == b.toList)))))
  | .neq => (True, .c (.t (.v (.bool (!(a.toList == b.toList))))))
  | .lss => (True, .c (.t (.v (.bool (Op.bytesLess a.toList b.toList)))))
  | .gtr => (True, .c (.t (.v (.bool (!(Op.bytesLess a.toList b.toList || a.toList == b.toList))))))
  | .leq => (True, .c (.t (.v (.bool (Op.bytesLess a.toList b.toList || a.toList == b.toList)))))
  | .geq => (True, .c (.t (.v (.bool (!(Op.bytesLess a.toList b.toList))))))
  | _ => bad
@[go_sem] def boolB (P : Program) (ty : TypeId) (op : BinOp) (a b : Bool) : Prop × AV :=
  match op with
  | .eql => (P.underlying ty = some .bool, .c (.t (.v (.bool (a == b)))))
  | .neq => (P.underlying ty = some .bool, .c (.t (.v (.bool (!(a == b))))))
  | _ => bad
def isPtrT (P : Program) (ty : TypeId) : Bool := match P.underlying ty with | some (.pointer _) => true | _ => false
@[go_sem] def nilB (P : Program) (ty : TypeId) (op : BinOp) (y : Value) : Prop × AV :=
  match op, y with
  | .eql, .pointer none => (isPtrT P ty = true, .c (.t (.v (.bool false))))
  | .neq, .pointer none => (isPtrT P ty = true, .c (.t (.v (.bool true))))
  | _, _ => bad
@[go_sem] def sliNilB (P : Program) (ty : TypeId) (op : BinOp) (rows : List (List T)) : Prop × AV :=
  match op, rows with
  | .eql, [] => ((sli P ty).isSome = true, .c .ab)
  | .neq, [] => ((sli P ty).isSome = true, .c .ab)
  | .eql, _ :: _ => ((sli P ty).isSome = true, .c (.t (.v (.bool false))))
  | .neq, _ :: _ => ((sli P ty).isSome = true, .c (.t (.v (.bool true))))
  | _, _ => bad
@[go_sem] def nilNilB (P : Program) (ty : TypeId) (op : BinOp) : Prop × AV :=
  match op with
  | .eql => ((sli P ty).isSome = true, .c (.t (.v (.bool true))))
  | .neq => ((sli P ty).isSome = true, .c (.t (.v (.bool false))))
  | _ => bad
@[go_sem] def binV (P : Program) (op : BinOp) (ty : TypeId) (x y : AV) : Prop × AV :=
  match x, y with
  | .c (.t (.v (.int k a))), .c (.t (.v (.int k' b))) => if isShift op = true then shiftB op k a b else ((intB op k a b).1 ∧ k = k', (intB op k a b).2)
  | .c (.t (.v (.string a))), .c (.t (.v (.string b))) => strB op a b
  | .c (.t (.v (.bool a))), .c (.t (.v (.bool b))) => boolB P ty op a b
  | .c (.t (.s rows)), .c (.t (.v (.slice none 0 0))) => sliNilB P ty op rows
  | .c (.t (.v (.slice none 0 0))), .c (.t (.v (.slice none 0 0))) => nilNilB P ty op
  | .c (.t (.p _)), .c (.t (.v y)) => nilB P ty op y
  | .c (.ptr _ _), .c (.t (.v y)) => nilB P ty op y
  | .c (.el _ _), .c (.t (.v y)) => nilB P ty op y
  | _, _ => bad
@[go_sem] def unV (op : UnOp) (x : AV) : Prop × AV :=
  match op, x with
  | .not, .c (.t (.v (.bool b))) => (True, .c (.t (.v (.bool (!b)))))
  | .neg, .c (.t (.v (.int k n))) => (inK k (0 - n), .c (.t (.v (.int k (0 - n)))))
  | _, _ => bad
def intT (P : Program) (ty : TypeId) : Option IntKind := match P.underlying ty with | some (.int k) => some k | _ => none
@[go_sem] def convV (P : Program) (src dst : TypeId) (x : AV) : Prop × AV :=
  match x with
  | .c (.t (.v (.int k n))) => match intT P dst with
    | some k' => ((P.underlying src).isSome = true, .c (.t (.v (.int k' (k'.wrap n)))))
    | none => bad
  | .c (.t (.v (.string s))) => (P.underlying src = some .string ∧ P.underlying dst = some .string, .c (.t (.v (.string s))))
  | _ => bad
@[go_sem] def nilV (x : AV) : Prop × AV :=
  match x with
  | .c (.ptr k i) => (True, .c (.ptr k i))
  | .c (.t (.p row)) => (True, .c (.t (.p row)))
  | .c (.el row j) => (True, .c (.el row j))
  | _ => bad
@[go_sem] def fieldV (P : Program) (ty : TypeId) (x : AV) (f : Nat) : Prop × AV :=
  match fld P ty f, x with
  | some (off, n, agg), .agg l => ((agg = false → n = 1) ∧ off + n ≤ l.length, takeAV agg n l off)
  | _, _ => bad
@[go_sem] def extractV (x : AV) (i : Nat) : Prop × AV :=
  match x with
  | .tup l => (i < l.length, l.getD i .dead)
  | _ => bad
@[go_sem] def buildV (P : Program) (ty : TypeId) (ps : List (Nat × AV)) : Prop × AV :=
  match stc P ty with
  | some (pl, z) => match fillA pl (z.map fun x => .t (.v x)) ps with
    | some r => (True, .agg r)
    | none => bad
  | none => bad
def optV (x : Option AV) (d : Int) : Option Int :=
  match x with
  | none => some d
  | some (.c (.t (.v (.int _ n)))) => some n
  | _ => none
attribute [go_sem] optV
@[go_sem] def cutV (P : Program) (ty : TypeId) (x : AV) (lo hi : Option AV) : Prop × AV :=
  match x with
  | .c (.t (.s rows)) => match sli P ty, optV lo 0, optV hi rows.length with
    | some (_, n, _), some l, some h => (0 ≤ l ∧ l ≤ h ∧ h ≤ rows.length ∧ (∀ i, i < rows.length → (rows.getD i []).length = n), .c (.t (.s ((rows.take h.toNat).drop l.toNat))))
    | _, _, _ => bad
  | .c (.t (.v (.string s))) => match optV lo 0, optV hi s.size with
    | some l, some h => (P.underlying ty = some .string ∧ 0 ≤ l ∧ l ≤ h ∧ h ≤ s.size, .c (.t (.v (.string (s.extract l.toNat h.toNat)))))
    | _, _ => bad
  | _ => bad
@[go_sem] def indexV (P : Program) (ty : TypeId) (x ix : AV) : Prop × AV :=
  match x, ix with
  | .c (.t (.v (.string s))), .c (.t (.v (.int _ i))) => (P.underlying ty = some .string ∧ 0 ≤ i ∧ i < s.size, .c (.t (.v (.int .u8 (s.data.toList.getD i.toNat 0).toNat))))
  | _, _ => bad
@[go_sem] def cut0V (P : Program) (ty : TypeId) (x y z : AV) : Prop × AV :=
  match x, y, z with
  | .c (.t (.s _)), .c (.t (.v (.int _ a))), .c (.t (.v (.int _ b))) => ((sli P ty).isSome = true ∧ a = 0 ∧ b = 0, .c .z)
  | .c (.t (.v (.slice none 0 0))), .c (.t (.v (.int _ a))), .c (.t (.v (.int _ b))) => ((sli P ty).isSome = true ∧ a = 0 ∧ b = 0, .c .z)
  | .c .z, .c (.t (.v (.int _ a))), .c (.t (.v (.int _ b))) => ((sli P ty).isSome = true ∧ a = 0 ∧ b = 0, .c .z)
  | _, _, _ => bad
def zB : AV → Bool
  | .c .z => true
  | .c (.t (.v (.slice none 0 0))) => true
  | _ => false
attribute [go_sem] zB
@[go_sem] def copyV (P : Program) (ty ty' : TypeId) (x y : AV) : Prop × AV :=
  match sli P ty, y with
  | some (_, n, b), .c (.t (.s more)) => (ty = ty' ∧ zB x = true ∧ (∀ r ∈ more, r.length = n) ∧ more.length ≤ 1000000000 ∧ b ≤ 1000, .c (.t (.s more)))
  | some (_, _, b), .c (.t (.v (.slice none 0 0))) => (ty = ty' ∧ zB x = true ∧ b ≤ 1000, .c (.t (.s [])))
  | _, _ => bad
@[go_sem] def pickV (c x y : AV) : Prop × AV :=
  match c with
  | .c (.t (.v (.bool true))) => (True, x)
  | .c (.t (.v (.bool false))) => (True, y)
  | _ => bad
/-- a value, and what is to be shown for it -/
@[go_sem] def valV (P : Program) (H : AHeap) (s : Slots) (op : Op) : Prop × AV :=
  match op with
  | .move x => (True, ev s x)
  | .assign x => (True, ev s x)
  | .load ty x => loadV P H ty (ev s x)
  | .fieldAddr ty x f => fieldAddrV P H ty (ev s x) f
  | .indexAddr ty x i => indexAddrV P H ty (ev s x) (ev s i)
  | .binOp op ty x y _ => binV P op ty (ev s x) (ev s y)
  | .unOp op _ x => unV op (ev s x)
  | .convert src dst x => convV P src dst (ev s x)
  | .nilCheck x => nilV (ev s x)
  | .field ty x f => fieldV P ty (ev s x) f
  | .extract x i => extractV (ev s x) i
  | .build ty ps => buildV P ty (ps.toList.map fun p => (p.1, ev s p.2))
  | .slice ty x lo hi none => cutV P ty (ev s x) (lo.map (ev s)) (hi.map (ev s))
  | .slice ty x none (some y) (some z) => cut0V P ty (ev s x) (ev s y) (ev s z)
  | .index ty x i => indexV P ty (ev s x) (ev s i)
  | .pick x y z => pickV (ev s x) (ev s y) (ev s z)
  | .call { callee := .builtin .len, args := ⟨[x]⟩, argTypes := ⟨[ty]⟩ } => lenV P H ty (ev s x)
  | .call { callee := .builtin .append, args := ⟨[x, y]⟩, argTypes := ⟨[ty, ty']⟩ } => copyV P ty ty' (ev s x) (ev s y)
  | .buildSlice ty 0 ⟨[]⟩ => ((sli P ty).isSome = true, .c .z)
  | .buildSlice ty len ps => match sli P ty, rowsOf 0 (ps.toList.map fun p => (p.1, ev s p.2)) with
    | some (_, n, _), some rows => (rows.length = len ∧ (∀ r ∈ rows, r.length = n) ∧ len * n ≤ 16777216, .c (.t (.s rows)))
    | _, _ => bad
  | _ => bad
end Go.Proofs.YtoebfmhogkjmgaaGreatDoor.Fx
