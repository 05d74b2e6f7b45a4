/- The runner: operations, regions, code, calls, on what is known. No program in sight. -/
import Derived.Test.YtoebfmhogkjmgaaGreatDoorGxQ
namespace Go.Proofs.YtoebfmhogkjmgaaGreatDoor.Gx
open Go.RowKit
open Fx (forceN forceN_eq sliB maskN bitN)
set_option linter.unusedVariables false
set_option linter.unusedSimpArgs false
/-- a store of what numbers stand for -/
inductive Tr (α : Type) where
  | leaf
  | node (v : α) (l r : Tr α)
/-- a number's way -/
def wayF : Nat → Nat → List Bool
  | 0, _ => []
  | F + 1, k => match k with
    | 0 => []
    | j + 1 => Nat.beq (Nat.mod j 2) 0 :: wayF F (Nat.div j 2)
theorem wayF_inj : ∀ (F k j : Nat), k + 1 < 2 ^ F → j + 1 < 2 ^ F → wayF F k = wayF F j → k = j := by
  intro F
  induction F with
  | zero => intro k j h; simp at h
  | succ F ih =>
    intro k j h1 h2 h
    have hp : 2 ^ (F + 1) = 2 * 2 ^ F := by rw [Nat.pow_succ]; omega
    cases k with
    | zero => cases j with
      | zero => rfl
      | succ j => simp [wayF] at h
    | succ k => cases j with
      | zero => simp [wayF] at h
      | succ j =>
        simp only [wayF, List.cons.injEq] at h
        obtain ⟨e1, e2⟩ := h
        have e3 := ih _ _ (show Nat.div k 2 + 1 < 2 ^ F by have : Nat.div k 2 = k / 2 := rfl; omega) (show Nat.div j 2 + 1 < 2 ^ F by have : Nat.div j 2 = j / 2 := rfl; omega) e2
        have e4 : k / 2 = j / 2 := e3
        have e5 : Nat.beq (k % 2) 0 = Nat.beq (j % 2) 0 := e1
        have m1 := Nat.mod_two_eq_zero_or_one k
        have m2 := Nat.mod_two_eq_zero_or_one j
        rcases m1 with m1 | m1 <;> rcases m2 with m2 | m2 <;> rw [m1, m2] at e5 <;> first | omega | (simp at e5; done) | (cases e5)
noncomputable def Tr.seq {α β : Type} (t : Tr α) (k : Tr α → β) : β := Tr.rec (motive := fun _ => β) (k .leaf) (fun v l r _ _ => k (.node v l r)) t
theorem Tr.seq_eq {α β : Type} (t : Tr α) (k : Tr α → β) : t.seq k = k t := by cases t <;> rfl
noncomputable def Tr.root {α : Type} (d : α) (t : Tr α) : α := Tr.rec (motive := fun _ => α) d (fun v _ _ _ _ => v) t
noncomputable def Tr.kid {α β : Type} (b : Bool) (f : Tr α → β) (d : β) (t : Tr α) : β := Tr.rec (motive := fun _ => β) d (fun _ l r _ _ => Bool.rec (motive := fun _ => β) (f r) (f l) b) t
noncomputable def Tr.getP {α : Type} (d : α) (p : List Bool) : Tr α → α := List.rec (motive := fun _ => Tr α → α) (Tr.root d) (fun b _ ih => Tr.kid b ih d) p
noncomputable def Tr.putR {α : Type} (x : α) (t : Tr α) : Tr α := Tr.rec (motive := fun _ => Tr α) (.node x .leaf .leaf) (fun _ l r _ _ => .node x l r) t
noncomputable def Tr.putK {α : Type} (d : α) (b : Bool) (f : Tr α → Tr α) (t : Tr α) : Tr α :=
  Tr.rec (motive := fun _ => Tr α) (Bool.rec (motive := fun _ => Tr α) ((f .leaf).seq fun r => .node d .leaf r) ((f .leaf).seq fun l => .node d l .leaf) b)
    (fun v l r _ _ => Bool.rec (motive := fun _ => Tr α) ((f r).seq fun r => .node v l r) ((f l).seq fun l => .node v l r) b) t
noncomputable def Tr.insP {α : Type} (d x : α) (p : List Bool) : Tr α → Tr α := List.rec (motive := fun _ => Tr α → Tr α) (Tr.putR x) (fun b _ ih => Tr.putK d b ih) p
theorem Tr.getP_leaf {α : Type} (d : α) (p : List Bool) : Tr.getP d p (.leaf : Tr α) = d := by cases p <;> rfl
section
variable {α : Type} (d x v : α) (l r : Tr α) (b : Bool) (p : List Bool)
theorem Tr.g0 : Tr.getP d [] (.node v l r) = v := rfl
theorem Tr.g1 : Tr.getP d (true :: p) (.node v l r) = Tr.getP d p l := rfl
theorem Tr.g2 : Tr.getP d (false :: p) (.node v l r) = Tr.getP d p r := rfl
theorem Tr.i0 : Tr.insP d x [] (.node v l r) = .node x l r := rfl
theorem Tr.i1 : Tr.insP d x [] .leaf = .node x .leaf .leaf := rfl
theorem Tr.i2 : Tr.insP d x (true :: p) .leaf = .node d (Tr.insP d x p .leaf) .leaf := Tr.seq_eq (Tr.insP d x p .leaf) (fun l => Tr.node d l .leaf)
theorem Tr.i3 : Tr.insP d x (false :: p) .leaf = .node d .leaf (Tr.insP d x p .leaf) := Tr.seq_eq (Tr.insP d x p .leaf) (fun r => Tr.node d .leaf r)
theorem Tr.i4 : Tr.insP d x (true :: p) (.node v l r) = .node v (Tr.insP d x p l) r := Tr.seq_eq (Tr.insP d x p l) (fun l => Tr.node v l r)
theorem Tr.i5 : Tr.insP d x (false :: p) (.node v l r) = .node v l (Tr.insP d x p r) := Tr.seq_eq (Tr.insP d x p r) (fun r => Tr.node v l r)
end
theorem Tr.getP_insP {α : Type} (d x : α) : ∀ (p q : List Bool) (t : Tr α), Tr.getP d q (Tr.insP d x p t) = (if q = p then x else Tr.getP d q t) := by
  intro p
  induction p with
  | nil =>
    intro q t
    cases t <;> cases q with
    | nil => simp [Tr.i0, Tr.i1, Tr.g0]
    | cons b q => cases b <;> simp [Tr.i0, Tr.i1, Tr.g1, Tr.g2, Tr.getP_leaf]
  | cons c p ih =>
    intro q t
    cases t <;> cases c <;> cases q with
    | nil => simp [Tr.i2, Tr.i3, Tr.i4, Tr.i5, Tr.g0, Tr.getP_leaf]
    | cons b q => cases b <;> simp [Tr.i2, Tr.i3, Tr.i4, Tr.i5, Tr.g1, Tr.g2, ih, Tr.getP_leaf]
noncomputable def Tr.get {α : Type} (d : α) (t : Tr α) (k : Nat) : α := Bool.rec (motive := fun _ => α) d (Tr.getP d (wayF 40 k) t) (Nat.blt k 1000000000)
noncomputable def Tr.ins {α : Type} (d : α) (t : Tr α) (k : Nat) (x : α) : Tr α := Tr.insP d x (wayF 40 k) t
theorem Tr.get_ins {α : Type} (d : α) (t : Tr α) (k : Nat) (x : α) (j : Nat) (h : k < 1000000000) : (t.ins d k x).get d j = if j = k then x else t.get d j := by
  unfold Tr.get Tr.ins
  cases hb : Nat.blt j 1000000000
  · have hj : ¬ j < 1000000000 := fun e => by rw [blt_iff.2 e] at hb; cases hb
    rw [if_neg (by omega)]
  · have hj := blt_iff.1 hb
    show Tr.getP d _ _ = if j = k then x else Tr.getP d _ _
    rw [Tr.getP_insP]
    by_cases e : j = k
    · subst e; simp
    · rw [if_neg (fun h2 => e (wayF_inj 40 j k (by omega) (by omega) h2)), if_neg e]
abbrev HT := Tr (Option GObj)
noncomputable def Tr.obj (t : HT) (k : Nat) : Option GObj := t.get none k
/-- worked out before it is used -/
def forceI {α : Type} (n : Int) (k : Int → α) : α :=
  match n with
  | .ofNat m => forceN m fun m => k (.ofNat m)
  | .negSucc m => forceN m fun m => k (.negSucc m)
theorem forceI_eq {α : Type} (n : Int) (k : Int → α) : forceI n k = k n := by cases n <;> simp [forceI, forceN_eq]
def forceV {α : Type} (x : Value) (k : Value → α) : α :=
  match x with
  | .int kd n => forceI n fun n => k (.int kd n)
  | .bool true => k (.bool true)
  | .bool false => k (.bool false)
  | .float kd n => forceN n fun n => k (.float kd n)
  | x => k x
theorem forceV_eq {α : Type} (x : Value) (k : Value → α) : forceV x k = k x := by
  unfold forceV
  split <;> simp [forceI_eq, forceN_eq]
def forceL {α : Type} : List Nat → (List Nat → α) → α
  | [], k => k []
  | a :: t, k => forceN a fun a => forceL t fun t => k (a :: t)
theorem forceL_eq {α : Type} : ∀ (l : List Nat) (k : List Nat → α), forceL l k = k l := by
  intro l
  induction l with
  | nil => intro k; rfl
  | cons a t ih => intro k; simp [forceL, forceN_eq, ih]
/-- a list's length worked out, not what is in it -/
def forceS {β α : Type} : List β → (List β → α) → α
  | [], k => k []
  | a :: t, k => forceS t fun t => k (a :: t)
theorem forceS_eq {β α : Type} : ∀ (l : List β) (k : List β → α), forceS l k = k l := by
  intro l
  induction l with
  | nil => intro k; rfl
  | cons a t ih => intro k; simp [forceS, ih]
def forceB {α : Type} (b : Bool) (k : Bool → α) : α :=
  match b with
  | true => k true
  | false => k false
theorem forceB_eq {α : Type} (b : Bool) (k : Bool → α) : forceB b k = k b := by cases b <;> rfl
def forceC {α : Type} (x : GC) (k : GC → α) : α :=
  match x with
  | .v x => forceV x fun x => k (.v x)
  | .s l => k (.s l)
  | .p b i => forceN b fun b => forceN i fun i => k (.p b i)
  | .sl b off len cap n ex => forceN b fun b => forceN off fun off => forceN len fun len => forceN cap fun cap => forceN n fun n => forceB ex fun ex => k (.sl b off len cap n ex)
  | .e => k .e
  | .fn f fs cs => k (.fn f fs cs)
  | .m b => forceN b fun b => k (.m b)
theorem forceC_eq {α : Type} (x : GC) (k : GC → α) : forceC x k = k x := by
  unfold forceC
  split <;> simp [forceV_eq, forceL_eq, forceN_eq, forceB_eq, forceS_eq]
def forceA {α : Type} (x : GA) (k : GA → α) : α :=
  match x with
  | .c x => forceC x fun x => k (.c x)
  | x => k x
theorem forceA_eq {α : Type} (x : GA) (k : GA → α) : forceA x k = k x := by
  unfold forceA
  split <;> simp [forceC_eq]
/-- cells taken, worked out -/
def takeK {α : Type} (agg : Bool) (n : Nat) (l : List GC) (i : Nat) (k : GA → α) : α :=
  match agg with
  | true => forceS ((l.drop i).take n) fun l => k (.agg l)
  | false => k (.c (l.getD i default))
theorem takeK_eq {α : Type} (agg : Bool) (n : Nat) (l : List GC) (i : Nat) (k : GA → α) : takeK agg n l i k = k (takeG agg n l i) := by
  cases agg <;> simp [takeK, takeG, forceS_eq]
def pv (v : GA) (nx : Nat) : Option Res := some ⟨v, [], [], [], nx⟩
def optN (x : Option GA) (d : Nat) : Option Nat :=
  match x with
  | none => some d
  | some (.c (.v (.int _ (.ofNat n)))) => some n
  | _ => none
/-- comparison with nil of what isn't -/
def nilCmp (op : BinOp) (x y : GA) : Option Bool :=
  match x, y with
  | .c (.p _ _), .c (.v (.pointer none)) => (match op with | .eql => some false | .neq => some true | _ => none)
  | .c (.sl _ _ _ _ _ _), .c (.v (.slice none 0 0)) => (match op with | .eql => some false | .neq => some true | _ => none)
  | .c (.fn _ _ _), .c (.v .nilFunc) => (match op with | .eql => some false | .neq => some true | _ => none)
  | _, _ => none
def nilOk (P : Program) (ty : TypeId) (x : GA) : Bool :=
  match x, P.underlying ty with
  | .c (.p _ _), some (.pointer _) => true
  | .c (.sl _ _ _ _ _ _), some (.slice _) => true
  | .c (.fn _ _ _), some (.func _ _ _) => true
  | _, _ => false
def sGet : List Nat → Nat → Option Nat
  | [], _ => none
  | a :: _, 0 => some a
  | _ :: t, i + 1 => sGet t i
/-- operations on strings and integers that come up often, and on slices' lengths -/
def cutR (P : Program) (ρ : Operand → GA) (nx : Nat) (ty : TypeId) (x : Operand) (lo hi : Option Operand) : Option Res :=
  match ρ x with
  | .c (.s l) => match optN (lo.map ρ) 0, optN (hi.map ρ) l.length with
    | some i, some j => if isStr P ty = true ∧ i ≤ j ∧ j ≤ l.length then forceL ((l.take j).drop i) fun l => pv (.c (.s l)) nx else none
    | _, _ => none
  | .c (.sl k off len cap n ex) => match Fx.sli P ty, optN (lo.map ρ) 0, optN (hi.map ρ) len with
    | some (_, n', _), some i, some j => if n' = n ∧ i ≤ j ∧ j ≤ cap ∧ (i < cap ∨ i = 0) then pv (.c (.sl k (off + i * n) (j - i) (cap - i) n ex)) nx else (if n' = n ∧ i = j ∧ j ≤ cap then pv (.c .e) nx else none)
    | _, _, _ => none
  | _ => none
def cut3R (P : Program) (ρ : Operand → GA) (nx : Nat) (ty : TypeId) (x : Operand) (lo hi : Option Operand) (z : Operand) : Option Res :=
  match lo, hi with
  | none, some y => match ρ x, ρ y, ρ z with
    | .c (.sl k off _ cap n _), .c (.v (.int _ (.ofNat i))), .c (.v (.int _ (.ofNat j))) => match Fx.sli P ty with
      | some (_, n', _) => if n' = n ∧ i ≤ j ∧ j ≤ cap then pv (.c (.sl k off i j n true)) nx else none
      | none => none
    | _, _, _ => none
  | _, _ => none
def appR (P : Program) (ρ : Operand → GA) (H : GH) (nx : Nat) (t tx : TypeId) (s x : Operand) : Option Res :=
  match Fx.sli P t with
  | none => none
  | some (e, n, bytes) =>
    match srcG P H tx n (ρ x) with
    | none => none
    | some (cnt, cl, R) =>
      match ρ s with
      | .c (.v (.slice none 0 0)) =>
        if cnt = 0 then some ⟨.c (.v (.slice none 0 0)), R, [], [], nx⟩
        else if cnt ≤ 1000000 ∧ bytes ≤ 1000 then some ⟨.c (.sl nx 0 cnt cnt n false), R, [nx], [(nx, .cells e cl nx)], nx + 1⟩ else none
      | .c (.sl k off len cap n' ex) =>
        match H k with
        | some (.cells vt cells _) =>
          if n' = n ∧ off + len * n ≤ cells.length ∧ len + cnt ≤ 1000000 ∧ bytes ≤ 1000 then
            if len + cnt ≤ cap then some ⟨.c (.sl k off (len + cnt) cap n ex), k :: R, [], [(k, .cells vt (cells.take (off + len * n) ++ cl ++ cells.drop (off + len * n + cl.length)) nx)], nx + 1⟩
            else match ex with
              | true => some ⟨.c (.sl nx 0 (len + cnt) (len + cnt) n false), k :: R, [nx], [(nx, .cells e ((cells.drop off).take (len * n) ++ cl) nx)], nx + 1⟩
              | false => if vt = e ∧ off = 0 then some ⟨.c (.sl nx 0 (len + cnt) (len + cnt) n false), k :: R, [nx], [(k, .gone nx), (nx, .cells e (cells.take (len * n) ++ cl) nx)], nx + 1⟩ else none
          else none
        | _ => none
      | _ => none
def loadR (P : Program) (ρ : Operand → GA) (H : GH) (nx : Nat) (ty : TypeId) (x : Operand) : Option Res :=
  match Fx.shp P ty, ρ x with
  | some (agg, n), .c (.p k i) => match H k with
    | some (.cells _ cs _) => if (agg = false → n = 1) ∧ i + n ≤ cs.length then takeK agg n cs i fun v => some ⟨v, [k], [], [], nx⟩ else none
    | _ => none
  | _, _ => none
def storeR (P : Program) (ρ : Operand → GA) (H : GH) (nx : Nat) (ty : TypeId) (x y : Operand) : Option Res :=
  match Fx.shp P ty, ρ x, cellsG (ρ y) with
  | some (_, n), .c (.p k i), some l => match H k with
    | some (.cells vt cs _) => if l.length = n ∧ i + n ≤ cs.length then some ⟨.tup [], [k], [], [(k, .cells vt (cs.take i ++ l ++ cs.drop (i + l.length)) nx)], nx + 1⟩ else none
    | _ => none
  | _, _, _ => none
def allocR (P : Program) (nx : Nat) (ty : TypeId) : Option Res :=
  match Fx.zro P ty with
  | some l => some ⟨.c (.p nx 0), [], [nx], [(nx, .cells ty (l.map constC) nx)], nx + 1⟩
  | none => none
def boxR (ρ : Operand → GA) (nx : Nat) (ty : TypeId) (x : Operand) : Option Res :=
  match cellsG (ρ x) with
  | some l => some ⟨.c (.p nx 0), [], [nx], [(nx, .cells ty l nx)], nx + 1⟩
  | none => none
def fieldAddrR (P : Program) (ρ : Operand → GA) (nx : Nat) (ty : TypeId) (x : Operand) (f : Nat) : Option Res :=
  match Fx.fld P ty f, ρ x with
  | some (off, _, _), .c (.p k i) => pv (.c (.p k (i + off))) nx
  | _, _ => none
def indexAddrR (P : Program) (ρ : Operand → GA) (nx : Nat) (ty : TypeId) (x ix : Operand) : Option Res :=
  match ρ x, ρ ix with
  | .c (.sl k off len _ n _), .c (.v (.int _ (.ofNat i))) => match Fx.sli P ty with
    | some (_, n', _) => if n' = n ∧ i < len then pv (.c (.p k (off + i * n))) nx else none
    | none => none
  | .c (.p k j), .c (.v (.int _ (.ofNat i))) => match Fx.arr P ty with
    | some (len, n) => if i < len then pv (.c (.p k (j + i * n))) nx else none
    | none => none
  | _, _ => none
def nilR (ρ : Operand → GA) (nx : Nat) (x : Operand) : Option Res :=
  match ρ x with
  | .c (.p k i) => pv (.c (.p k i)) nx
  | .c (.fn (.func f) fs cs) => pv (.c (.fn (.func f) fs cs)) nx
  | _ => none
def extractR (ρ : Operand → GA) (nx : Nat) (x : Operand) (i : Nat) : Option Res :=
  match ρ x with
  | .tup l => if i < l.length then pv (l.getD i .dead) nx else none
  | _ => none
def pickR (ρ : Operand → GA) (nx : Nat) (x y z : Operand) : Option Res :=
  match ρ x with
  | .c (.v (.bool b)) => pv (if b then ρ y else ρ z) nx
  | _ => none
def fieldR (P : Program) (ρ : Operand → GA) (nx : Nat) (ty : TypeId) (x : Operand) (f : Nat) : Option Res :=
  match Fx.fld P ty f, ρ x with
  | some (off, n, agg), .agg l => if (agg = false → n = 1) ∧ off + n ≤ l.length then takeK agg n l off fun v => pv v nx else none
  | _, _ => none
def buildR (P : Program) (ρ : Operand → GA) (nx : Nat) (ty : TypeId) (ps : Array (Nat × Operand)) : Option Res :=
  match Fx.stc P ty with
  | some (pl, z) => match fillG (fun i => pl[i]?) (z.map constC) (ps.toList.map fun p => (p.1, ρ p.2)) with
    | some r => forceS r fun r => pv (.agg r) nx
    | none => none
  | none => none
def litR (P : Program) (ρ : Operand → GA) (nx : Nat) (ty : TypeId) (len : Nat) (ps : Array (Nat × Operand)) : Option Res :=
  match Fx.sli P ty with
  | some (e, n, _) => match Fx.zro P e with
    | some z => match fillG (fun i => some (i * n, n)) ((List.range (len * n)).map fun i => constC (z.getD (i % n) undef)) (ps.toList.map fun p => (p.1, ρ p.2)) with
      | some r => if len * n ≤ 16777216 then some ⟨.c (.sl nx 0 len len n true), [], [nx], [(nx, .cells e r nx)], nx + 1⟩ else none
      | none => none
    | none => none
  | none => none
def makeR (P : Program) (ρ : Operand → GA) (nx : Nat) (ty : TypeId) (x y : Operand) : Option Res :=
  match Fx.sli P ty, ρ x, ρ y with
  | some (e, n, bytes), .c (.v (.int _ (.ofNat len))), .c (.v (.int _ (.ofNat cap))) => match Fx.zro P e with
    | some z => if len ≤ cap ∧ cap ≤ 1000000 ∧ bytes ≤ 1000 then some ⟨.c (.sl nx 0 len cap n true), [], [nx], [(nx, .cells e ((List.range (cap * n)).map fun i => constC (z.getD (i % n) undef)) nx)], nx + 1⟩ else none
    | none => none
  | _, _, _ => none
def indexR (P : Program) (ρ : Operand → GA) (nx : Nat) (ty : TypeId) (x ix : Operand) : Option Res :=
  match ρ x, ρ ix with
  | .c (.s l), .c (.v (.int _ (.ofNat i))) => match sGet l i with
    | some b => if isStr P ty = true then pv (.c (.v (.int .u8 b))) nx else none
    | none => none
  | _, _ => none
def ptrEq (P : Program) (ty : TypeId) : Bool :=
  match P.underlying ty with
  | some (.pointer e) => match P.info? e with
    | some inf => inf.size != 0
    | none => false
  | _ => false
def binR (P : Program) (ρ : Operand → GA) (nx : Nat) (op : BinOp) (ty : TypeId) (x y : Operand) : Option Res :=
  match ρ x with
  | .c (.v (.int k a)) => match ρ y with
    | .c (.v (.int k' b)) => match kEq k k' with
      | true => match intG op k a b with
        | some v => pv (.c (.v v)) nx
        | none => none
      | false => none
    | _ => none
  | .c (.s a) => match ρ y with
    | .c (.s b) => match op with
      | .eql => pv (.c (.v (.bool (sEq a b)))) nx
      | .neq => pv (.c (.v (.bool (!sEq a b)))) nx
      | .add => if a.length + b.length ≤ 1000000 then forceL (a ++ b) fun l => pv (.c (.s l)) nx else none
      | _ => none
    | _ => none
  | x => match nilCmp op x (ρ y) with
    | some b => if nilOk P ty x = true then pv (.c (.v (.bool b))) nx else none
    | none => match x, ρ y with
      | .c (.p k i), .c (.p k' j) => if k = k' ∧ ptrEq P ty = true then (match op with
        | .eql => pv (.c (.v (.bool (i == j)))) nx
        | .neq => pv (.c (.v (.bool (!(i == j))))) nx
        | _ => none) else none
      | _, _ => none
def unR (ρ : Operand → GA) (nx : Nat) (op : UnOp) (x : Operand) : Option Res :=
  match op with
  | .not => match ρ x with
    | .c (.v (.bool b)) => pv (.c (.v (.bool (!b)))) nx
    | _ => none
  | _ => none
def gcs : List GA → Option (List GC)
  | [] => some []
  | .c x :: t => match gcs t with | some l => some (x :: l) | none => none
  | _ => none
def funcR (ρ : Operand → GA) (nx : Nat) (fn : Fn) (fs cs : Array Operand) : Option Res :=
  match gcs (fs.toList.map ρ), gcs (cs.toList.map ρ) with
  | some l, some l' => pv (.c (.fn fn l l')) nx
  | _, _ => none
def lenR (P : Program) (ρ : Operand → GA) (nx : Nat) (ty : TypeId) (x : Operand) : Option Res :=
  match ρ x with
  | .c (.sl _ _ len _ _ _) => match Fx.sli P ty with
    | some _ => pv (.c (.v (.int .i64 len))) nx
    | none => none
  | .c .e => match Fx.sli P ty with
    | some _ => pv (.c (.v (.int .i64 0))) nx
    | none => none
  | .c (.s l) => if isStr P ty = true then pv (.c (.v (.int .i64 l.length))) nx else none
  | _ => none
def capR (P : Program) (ρ : Operand → GA) (nx : Nat) (ty : TypeId) (x : Operand) : Option Res :=
  match ρ x with
  | .c (.sl _ _ _ cap _ true) => match Fx.sli P ty with
    | some _ => pv (.c (.v (.int .i64 cap))) nx
    | none => none
  | _ => none
def convR (P : Program) (ρ : Operand → GA) (H : GH) (nx : Nat) (src dst : TypeId) (x : Operand) : Option Res :=
  match ρ x with
  | .c (.v (.int _ n)) => match iconv P src dst n with
    | some v => pv (.c (.v v)) nx
    | none => none
  | .c (.sl k off len _ n _) => match P.underlying src, H k with
    | some (.slice e), some (.cells _ cs _) => match P.underlying e with
      | some (.int .u8) => if isStr P dst = true ∧ n = 1 ∧ off + len ≤ cs.length then (match u8s ((cs.drop off).take len) with | some l => forceL l fun l => some ⟨.c (.s l), [k], [], [], nx⟩ | none => none) else none
      | _ => none
    | _, _ => none
  | .c (.p k i) => match P.underlying src, P.underlying dst, H k with
    | some (.pointer t), some .unsafePointer, some (.cells _ cs _) => match P.info? t with
      | some inf => if inf.size ≠ 0 ∧ i < cs.length then some ⟨.c (.p k i), [k], [], [], nx⟩ else none
      | none => none
    | some .unsafePointer, some (.pointer u), some (.cells vt cs _) => match P.info? u with
      | some _ => if liesAt P P.depth vt (cs.length / P.cellsOf vt) i u 1 = true then some ⟨.c (.p k i), [k], [], [], nx⟩ else none
      | none => none
    | _, _, _ => none
  | _ => none
def escR (P : Program) (ρ : Operand → GA) (nx : Nat) (fo x : Operand) : Option Res :=
  match ρ fo with
  | .c (.fn (.func f) [] []) => if noEsc P f = true then pv (ρ x) nx else match isMnz P f, ρ x with
    | some e, .c (.v (.int .i64 (.ofNat n))) => if n ≤ 1000000 then some ⟨.c (.sl nx 0 n n 1 false), [], [nx], [(nx, .cells e [] nx)], nx + 1⟩ else none
    | _, _ => none
  | _ => none
def copyR (P : Program) (ρ : Operand → GA) (nx : Nat) (t : TypeId) (x y : Operand) : Option Res :=
  match ρ x, ρ y, Fx.sli P t with
  | .c (.sl _ _ _ _ _ _), .c (.v (.slice none 0 0)), some _ => pv (.c (.v (.int .i64 0))) nx
  | _, _, _ => none
def makeMapR (nx : Nat) (r : Option Operand) : Option Res :=
  match r with
  | none => some ⟨.c (.m nx), [], [nx], [(nx, .mp [] nx)], nx + 1⟩
  | some _ => none
def foundG (z : Value) (r : Option (Nat × GC)) : GA :=
  match r with
  | some (_, y) => .tup [.c y, .c (.v (.bool true))]
  | none => .tup [constG z, .c (.v (.bool false))]
def lookupR (P : Program) (ρ : Operand → GA) (H : GH) (nx : Nat) (ty : TypeId) (x ix : Operand) (ok : Bool) : Option Res :=
  match ok, ρ x, ρ ix with
  | true, .c (.m k), .c (.s l) => match H k, mapS P ty with
    | some (.mp es _), some e => match zeroM P e with
      | some z => some ⟨foundG z (mpFind l es 0), [k], [], [], nx⟩
      | none => none
    | _, _ => none
  | _, _, _ => none
def putR (P : Program) (ρ : Operand → GA) (H : GH) (nx : Nat) (ty : TypeId) (x ix y : Operand) : Option Res :=
  match ρ x, ρ ix, ρ y with
  | .c (.m k), .c (.s l), .c c => match H k, mapS P ty with
    | some (.mp es _), some _ => match mpFind l es 0 with
      | none => some ⟨.tup [], [k], [], [(k, .mp (es ++ [(l, c)]) nx)], nx + 1⟩
      | some _ => none
    | _, _ => none
  | _, _, _ => none
def dataR (ρ : Operand → GA) (nx : Nat) (x : Operand) : Option Res :=
  match ρ x with
  | .c (.sl k off _ cap _ _) => if 0 < cap then pv (.c (.p k off)) nx else none
  | _ => none
def strR (P : Program) (ρ : Operand → GA) (H : GH) (nx : Nat) (pt : TypeId) (x y : Operand) : Option Res :=
  match ρ x, ρ y, P.underlying pt with
  | .c (.p k 0), .c (.v (.int .i64 (.ofNat n))), some (.pointer e) => match H k with
    | some (.cells vt cs _) => if vt = e ∧ P.cellsOf e = 1 ∧ 0 < n ∧ n ≤ 1000000000 ∧ n ≤ cs.length then (match u8s (cs.take n) with | some l => forceL l fun l => some ⟨.c (.s l), [k], [], [(k, .gone nx)], nx + 1⟩ | none => none) else none
    | _ => none
  | _, _, _ => none
/-- a builtin's call -/
def builtR (P : Program) (ρ : Operand → GA) (H : GH) (nx : Nat) (b : Builtin) (xs : List Operand) (ts : List TypeId) : Option Res :=
  match b, xs, ts with
  | .len, [x], [ty] => lenR P ρ nx ty x
  | .cap, [x], [ty] => capR P ρ nx ty x
  | .append, [s, x], [t, tx] => appR P ρ H nx t tx s x
  | .unsafeSliceData, [x], _ => dataR ρ nx x
  | .unsafeString, [x, y], [pt, _] => strR P ρ H nx pt x y
  | .copy, [x, y], [t, _] => copyR P ρ nx t x y
  | _, _, _ => none
def callR (P : Program) (ρ : Operand → GA) (H : GH) (nx : Nat) (c : Call) : Option Res :=
  match c.callee with
  | .builtin b => builtR P ρ H nx b c.args.toList c.argTypes.toList
  | .value fo => match c.args.toList with
    | [x] => escR P ρ nx fo x
    | _ => none
  | _ => none
/-- an operation that enters no function -/
def opR1 (P : Program) (ρ : Operand → GA) (H : GH) (nx : Nat) (op : Op) : Option Res :=
  Op.casesOn (motive := fun _ => Option Res) op (fun x => pv (ρ x) nx) (fun x => pv (ρ x) nx) (fun x y z => pickR ρ nx x y z) (fun e => allocR P nx e) (fun e x => boxR ρ nx e x) (fun t ps => buildR P ρ nx t ps) (fun t l ps => litR P ρ nx t l ps)
    (fun _ _ _ _ => none) (fun t x => loadR P ρ H nx t x) (fun t x y => storeR P ρ H nx t x y) (fun _ => none) (fun _ => none) (fun x => nilR ρ nx x) (fun b t x y _ => binR P ρ nx b t x y) (fun u _ x => unR ρ nx u x) (fun s d x => convR P ρ H nx s d x)
    (fun _ _ => none) (fun _ _ => none) (fun f a c => funcR ρ nx f a c) (fun _ r => makeMapR nx r) (fun _ _ => none) (fun t x y => makeR P ρ nx t x y) (fun t x lo hi mx => match mx with | none => cutR P ρ nx t x lo hi | some z => cut3R P ρ nx t x lo hi z)
    (fun t x f => fieldAddrR P ρ nx t x f) (fun t x f => fieldR P ρ nx t x f) (fun t x i => indexAddrR P ρ nx t x i) (fun t x i => indexR P ρ nx t x i)
    (fun t x i ok => lookupR P ρ H nx t x i ok) (fun t x i y => putR P ρ H nx t x i y) (fun _ _ _ => none) (fun _ _ _ _ => none) (fun _ _ => none) (fun _ _ => none) (fun _ => none) (fun _ _ _ _ => none)
    (fun x i => extractR ρ nx x i) (fun c => callR P ρ H nx c) (fun _ => none) (fun _ => none) (fun _ => none) (fun _ _ => none) (fun _ _ _ => none) (fun _ _ => none)
def exactO (P : Program) (ρ : Operand → GA) (nx : Nat) (o : Oper) : Option Res :=
  match exactR P ρ o with
  | some v => pv v nx
  | none => none
def opR (P : Program) (ρ : Operand → GA) (H : GH) (nx : Nat) (o : Oper) : Option Res :=
  match opR1 P ρ H nx o.op with
  | some r => some r
  | none => exactO P ρ nx o
/-- 0: no call of a function's value; 1: such a call; 2: one put off; 3: recover -/
def kindC (c : Callee) : Nat :=
  match c with
  | .value _ => 1
  | .builtin .recover => 3
  | _ => 0
def kindO (op : Op) : Nat :=
  Op.casesOn (motive := fun _ => Nat) op (fun _ => 0) (fun _ => 0) (fun _ _ _ => 0) (fun _ => 0) (fun _ _ => 0) (fun _ _ => 0) (fun _ _ _ => 0)
    (fun _ _ _ _ => 0) (fun _ _ => 0) (fun _ _ _ => 0) (fun _ => 0) (fun _ => 0) (fun _ => 0) (fun _ _ _ _ _ => 0) (fun _ _ _ => 0) (fun _ _ _ => 0)
    (fun _ _ => 0) (fun _ _ => 0) (fun _ _ _ => 0) (fun _ _ => 0) (fun _ _ => 0) (fun _ _ _ => 0) (fun _ _ _ _ _ => 0)
    (fun _ _ _ => 0) (fun _ _ _ => 0) (fun _ _ _ => 0) (fun _ _ _ => 0)
    (fun _ _ _ _ => 0) (fun _ _ _ _ => 0) (fun _ _ _ => 0) (fun _ _ _ _ => 0) (fun _ _ => 0) (fun _ _ => 0) (fun _ => 0) (fun _ _ _ _ => 0)
    (fun _ _ => 0) (fun c => kindC c.callee) (fun _ => 0) (fun _ => 2) (fun _ => 0) (fun _ _ => 0) (fun _ _ _ => 0) (fun _ _ => 0)
/-- what came of a run; where it stopped -/
inductive Rs (α : Type) where
  | ok (a : α)
  | bad (l : List Nat)
structure St where
  sl : Tr GA
  hp : HT
  nx : Nat
  df : List GC
abbrev CallF := FuncId → List GA → HT → Nat → Rs (GA × HT × Nat)
noncomputable def sset (t : Tr GA) (d : Option Tmp) (v : GA) : Tr GA :=
  match d with
  | none => t
  | some d => t.ins .dead d v
noncomputable def hsets {α : Type} (t : HT) (U : List (Nat × GObj)) (k : HT → α) : α :=
  match U with
  | [] => k t
  | (i, .cells ty cs ver) :: u => forceN ver fun ver => forceS cs fun cs => (t.ins none i (some (.cells ty cs ver))).seq fun t => hsets t u k
  | (i, .gone ver) :: u => forceN ver fun ver => (t.ins none i (some (.gone ver))).seq fun t => hsets t u k
  | (i, .mp es ver) :: u => forceN ver fun ver => (t.ins none i (some (.mp es ver))).seq fun t => hsets t u k
/-- what was done by an operation: so much; a call: when it began, and what was there behind it -/
inductive Rec where
  | f (R N U : List Nat)
  | c (c0 c1 : Nat) (hp : HT)
noncomputable def evT (t : Tr GA) : GS := fun k => t.get .dead k
noncomputable def slotsT : Nat → List GA → Tr GA → Tr GA
  | _, [], t => t
  | k, x :: l, t => forceA x fun x => (t.ins .dead k x).seq fun t => slotsT (k + 1) l t
/-- which function is called, with what -/
def calleeC (P : Program) (ρ : Operand → GA) (f : Operand) (xs : List Operand) : Option (FuncId × List GA) :=
  match ρ f with
  | .c (.fn (.func id) fs cs) => if Fx.goB P id = true then some (id, fs.map .c ++ xs.map ρ ++ cs.map .c) else none
  | _ => none
def calleeR (P : Program) (ρ : Operand → GA) (o : Oper) : Option (FuncId × List GA) :=
  match o.op with
  | .call c => match c.callee with
    | .value f => calleeC P ρ f c.args.toList
    | _ => none
  | _ => none
noncomputable def contT (ih : St → Rs St) (dst : Option Tmp) (sl : Tr GA) (hp : HT) (nx : Nat) (df : List GC) (v : GA) : Rs St :=
  forceA v fun v => (sset sl dst v).seq fun sl => hp.seq fun hp => forceN nx fun nx => ih ⟨sl, hp, nx, df⟩
noncomputable def plainT (P : Program) (o : Oper) (ih : St → Rs St) (s : St) : Rs St :=
  match opR P (ev (evT s.sl)) s.hp.obj s.nx o with
  | some ⟨v, _, _, U, nx⟩ => bif Nat.blt nx 1000000000 then hsets s.hp U fun hp => contT ih o.dst s.sl hp nx s.df v else .bad [4]
  | none => .bad [2]
noncomputable def callT (call : CallF) (P : Program) (o : Oper) (ih : St → Rs St) (s : St) : Rs St :=
  match calleeR P (ev (evT s.sl)) o with
  | some (f, args) => match call f args s.hp s.nx with
    | .ok (v, hp, nx) => contT ih o.dst s.sl hp nx s.df v
    | .bad l => .bad l
  | none => plainT P o ih s
noncomputable def deferT (o : Oper) (ih : St → Rs St) (s : St) : Rs St :=
  match o.op with
  | .defer { callee := .value f, args := ⟨[]⟩, argTypes := _ } => match ev (evT s.sl) f with
    | .c (.fn (.func id) fs cs) => contT ih o.dst s.sl s.hp s.nx (.fn (.func id) fs cs :: s.df) (.tup [])
    | _ => .bad [5]
  | _ => .bad [5]
noncomputable def recT (rc : Bool) (o : Oper) (ih : St → Rs St) (s : St) : Rs St :=
  match o.op with
  | .call { callee := .builtin .recover, args := _, argTypes := _ } => match rc with
    | true => contT ih o.dst s.sl s.hp s.nx s.df (.c (.v .nilIface))
    | false => .bad [6]
  | _ => .bad [6]
noncomputable def kindT (call : CallF) (P : Program) (rc : Bool) (k : Nat) (o : Oper) (ih : St → Rs St) (s : St) : Rs St :=
  match k with
  | 0 => plainT P o ih s
  | 1 => callT call P o ih s
  | 2 => deferT o ih s
  | _ => recT rc o ih s
noncomputable def stepT (call : CallF) (P : Program) (ops : Array Oper) (rc : Bool) (o : Oper) (ih : St → Rs St) (s : St) : Rs St :=
  match wanted1 ops (evT s.sl) o with
  | none => .bad [1]
  | some false => contT ih o.dst s.sl s.hp s.nx s.df (.tup [])
  | some true => kindT call P rc (kindO o.op) o ih s
/-- operations in the text's order; a call may be put off; rc: what comes of recover is known to be nil -/
noncomputable def runT (call : CallF) (P : Program) (ops : Array Oper) (rc : Bool) (l : List Oper) : St → Rs St :=
  List.rec (motive := fun _ => St → Rs St) (fun s => .ok s) (fun o _ ih => stepT call P ops rc o ih) l
/-- is it nothing that memory shows? -/
def triv : List Nat → List Nat → List Nat → Bool
  | [], [], [] => true
  | _, _, _ => false
abbrev OpsF := Nat → St → List (Nat × Rec) → Rs (St × List (Nat × Rec))
noncomputable def contO (ih : OpsF) (i : Nat) (dst : Option Tmp) (sl : Tr GA) (hp : HT) (nx : Nat) (df : List GC) (rs : List (Nat × Rec)) (v : GA) : Rs (St × List (Nat × Rec)) :=
  forceA v fun v => (sset sl dst v).seq fun sl => hp.seq fun hp => forceN nx fun nx => forceN (i + 1) fun i => ih i ⟨sl, hp, nx, df⟩ rs
noncomputable def plainO (P : Program) (o : Oper) (ih : OpsF) (i : Nat) (s : St) (rs : List (Nat × Rec)) : Rs (St × List (Nat × Rec)) :=
  match opR P (ev (evT s.sl)) s.hp.obj s.nx o with
  | some ⟨v, R, N, U, nx⟩ => bif Nat.blt nx 1000000000 then hsets s.hp U fun hp => contO ih i o.dst s.sl hp nx s.df (bif triv R N (U.map (·.1)) then rs else (i, .f R N (U.map (·.1))) :: rs) v else .bad [4]
  | none => .bad [2]
noncomputable def callO (call : CallF) (P : Program) (o : Oper) (ih : OpsF) (i : Nat) (s : St) (rs : List (Nat × Rec)) : Rs (St × List (Nat × Rec)) :=
  match calleeR P (ev (evT s.sl)) o with
  | some (f, args) => match call f args s.hp s.nx with
    | .ok (v, hp, nx) => contO ih i o.dst s.sl hp nx s.df ((i, .c s.nx nx hp) :: rs) v
    | .bad l => .bad l
  | none => plainO P o ih i s rs
noncomputable def kindP (call : CallF) (P : Program) (k : Nat) (o : Oper) (ih : OpsF) (i : Nat) (s : St) (rs : List (Nat × Rec)) : Rs (St × List (Nat × Rec)) :=
  match k with
  | 0 => plainO P o ih i s rs
  | 1 => callO call P o ih i s rs
  | _ => .bad [5]
noncomputable def stepO (call : CallF) (P : Program) (ops : Array Oper) (o : Oper) (ih : OpsF) (i : Nat) (s : St) (rs : List (Nat × Rec)) : Rs (St × List (Nat × Rec)) :=
  match wanted1 ops (evT s.sl) o with
  | none => .bad [1]
  | some false => contO ih i o.dst s.sl s.hp s.nx s.df rs (.tup [])
  | some true => kindP call P (kindO o.op) o ih i s rs
noncomputable def runOps (call : CallF) (P : Program) (ops : Array Oper) (l : List Oper) : OpsF :=
  List.rec (motive := fun _ => OpsF) (fun _ s rs => .ok (s, rs)) (fun o _ ih => stepO call P ops o ih) l
def GObj.ver : GObj → Nat
  | .cells _ _ v => v
  | .gone v => v
  | .mp _ v => v
noncomputable def freshAll (nx : Nat) (hp : HT) (R : List Nat) : Bool := R.all (fun k => match hp.obj k with | some o => Nat.blt o.ver nx | none => false)
/-- may two come the other way about? -/
noncomputable def recOk : Rec → Rec → Bool
  | .f R N U, .f R' N' U' => U.all (fun k => !R'.contains k && !N'.contains k && !U'.contains k) && U'.all (fun k => !R.contains k && !N.contains k)
  | .f R N U, .c c0 c1 hp => freshAll c0 hp R && N.all (Nat.ble c1) && U.all (Nat.ble c1)
  | .c c0 c1 hp, .f R N U => freshAll c0 hp R && N.all (Nat.ble c1) && U.all (Nat.ble c1)
  | _, _ => false
/-- the last first -/
noncomputable def pairsT (M : Nat) : List (Nat × Rec) → Bool
  | [] => true
  | (i, r) :: t => t.all (fun x => bitN M i x.1 || recOk x.2 r) && pairsT M t
/-- what holds whatever the run -/
def edgesOk : Nat → List Oper → Bool
  | _, [] => true
  | i, o :: t => o.after.toList.all (fun e => !Region.binds .any e || Nat.blt e.on i) && edgesOk (i + 1) t
def apart1 (ops : Array Oper) (M : Nat) (i : Nat) (o : Oper) : Nat → List Oper → Bool
  | _, [] => true
  | j, q :: t => bif Nat.blt j i then (bitN M i j || q.apart ops o) && apart1 ops M i o (j + 1) t else true
def apartA (ops : Array Oper) (M : Nat) (all : List Oper) : Nat → List Oper → Bool
  | _, [] => true
  | i, o :: t => apart1 ops M i o 0 all && apartA ops M all (i + 1) t
def regOk (ops : Array Oper) : Bool := forceN (maskN ops.toList 0 0) fun M => edgesOk 0 ops.toList && apartA ops M ops.toList 0 ops.toList
def iterS (f : St → Rs (GEx × St)) (ih : St → Rs (GEx × St)) (s : St) : Rs (GEx × St) :=
  match f s with
  | .ok (.normal, s') => ih s'
  | r => r
noncomputable def iter (f : St → Rs (GEx × St)) (F : Nat) : St → Rs (GEx × St) :=
  Nat.rec (motive := fun _ => St → Rs (GEx × St)) (fun _ => .bad [0]) (fun _ ih => iterS f ih) F
/-- a piece of code's regions, looked at ahead of any run -/
def codeOk (n : Nat) : Code → Bool
  | .region _ ops draw => Fx.dstsOk n ops && (!draw || regOk ops)
  | .seq a b => codeOk n a && codeOk n b
  | .cond _ a b => codeOk n a && codeOk n b
  | .block _ c => codeOk n c
  | .loop c => codeOk n c
  | _ => true
def funOk (P : Program) (f : FuncId) : Bool :=
  match P.funcs[f]? with
  | some fn => match fn.body with
    | some c => codeOk fn.ntmps c && Nat.ble fn.ntmps 1000000000
    | none => false
  | none => false
noncomputable def drawR (ops : Array Oper) (id : Nat) (r : Rs (St × List (Nat × Rec))) : Rs (GEx × St) :=
  match r with
  | .ok (s', rs) => bif forceN (maskN ops.toList 0 0) fun M => pairsT M rs then .ok (.normal, s') else .bad [id, 9]
  | .bad l => .bad (id :: l)
def plainS (id : Nat) (r : Rs St) : Rs (GEx × St) :=
  match r with
  | .ok s' => .ok (.normal, s')
  | .bad l => .bad (id :: l)
noncomputable def regionR (call : CallF) (P : Program) (id : Nat) (ops : Array Oper) (draw : Bool) (s : St) : Rs (GEx × St) :=
  match draw with
  | false => plainS id (runT call P ops false ops.toList s)
  | true => drawR ops id (runOps call P ops ops.toList 0 s [])
def seqR (f g : St → Rs (GEx × St)) (s : St) : Rs (GEx × St) :=
  match f s with
  | .ok (.normal, s') => g s'
  | r => r
noncomputable def condR (c : Operand) (f g : St → Rs (GEx × St)) (s : St) : Rs (GEx × St) :=
  match ev (evT s.sl) c with
  | .c (.v (.bool true)) => f s
  | .c (.v (.bool false)) => g s
  | _ => .bad [1000001]
def blockR (id : Nat) (f : St → Rs (GEx × St)) (s : St) : Rs (GEx × St) :=
  match f s with
  | .ok (.exit id', s') => bif Nat.beq id' id then .ok (.normal, s') else .ok (.exit id', s')
  | r => r
noncomputable def run (call : CallF) (P : Program) (F : Nat) (c : Code) : St → Rs (GEx × St) :=
  Code.rec (motive := fun _ => St → Rs (GEx × St)) (fun s => .ok (.normal, s)) (fun id ops draw s => regionR call P id ops draw s) (fun _ _ f g s => seqR f g s) (fun c _ _ f g s => condR c f g s) (fun id _ f s => blockR id f s)
    (fun _ f s => iter f F s) (fun _ _ _ _ _ _ _ => .bad [1000002]) (fun id s => .ok (.exit id, s)) (fun _ _ _ => .bad [1000002]) (fun _ _ => .bad [1000002]) (fun _ _ => .bad [1000002]) (fun s => .ok (.ret, s)) (fun _ _ => .bad [1000002]) c
noncomputable def resR (P : Program) (s : St) : ResultVar → Option GA
  | .tmp t => some (evT s.sl t)
  | .cell a ty => match Fx.shp P ty, evT s.sl a with
    | some (agg, n), .c (.p k 0) => match s.hp.obj k with
      | some (.cells _ cs _) => if (agg = false → n = 1) ∧ n ≤ cs.length then some (takeG agg n cs 0) else none
      | _ => none
    | _, _ => none
noncomputable def resL (P : Program) (s : St) : List ResultVar → Option (List GA)
  | [] => some []
  | r :: t => match resR P s r, resL P s t with
    | some x, some l => some (x :: l)
    | _, _ => none
def resOf : List GA → GA
  | [x] => x
  | l => .tup l
/-- the body of a call that was put off: it may ask first what there is to recover -/
noncomputable def runD (call : CallF) (P : Program) (F : Nat) : Code → St → Rs (GEx × St)
  | .region id ops false, s => plainS id (runT call P ops true ops.toList s)
  | .seq a b, s => seqR (runD call P F a) (run call P F b) s
  | c, s => run call P F c s
/-- what is looked up of a function: its numbers of slots, its code; it was looked at -/
def codeOf (P : Program) (regs f : Nat) (k : Nat) : Option (Func × Code) :=
  match P.funcs[f]? with
  | some fn => match fn.body with
    | some c => bif Nat.testBit regs f && Nat.ble k fn.ntmps then some (fn, c) else none
    | none => none
  | none => none
noncomputable def endD (P : Program) (fn : Func) (f : Nat) (r : Rs (GEx × St)) : Rs (HT × Nat) :=
  match r with
  | .ok (.exit _, _) => .bad [f, 1000006]
  | .ok (_, s) => match s.df with
    | [] => match resL P s fn.results.toList with
      | some _ => .ok (s.hp, s.nx)
      | none => .bad [f, 1000007]
    | _ => .bad [f, 1000008]
  | .bad l => .bad (f :: l)
noncomputable def callD (call : CallF) (P : Program) (regs F : Nat) (x : GC) (hp : HT) (nx : Nat) : Rs (HT × Nat) :=
  match x with
  | .fn (.func f) fs cs => match codeOf P regs f (fs.length + cs.length) with
    | some (fn, c) => bif Fx.goB P f then endD P fn f (runD call P F c ⟨slotsT 0 (fs.map .c ++ cs.map .c) .leaf, hp, nx, []⟩) else .bad [f, 1000005]
    | none => .bad [f, 1000004]
  | _ => .bad [1000010]
noncomputable def callDs (call : CallF) (P : Program) (regs F : Nat) : List GC → HT → Nat → Rs (HT × Nat)
  | [], hp, nx => .ok (hp, nx)
  | x :: t, hp, nx => match callD call P regs F x hp nx with
    | .ok (hp, nx) => callDs call P regs F t hp nx
    | .bad l => .bad l
noncomputable def callE (P : Program) (f : FuncId) (fn : Func) (sl : Tr GA) (r : Rs (HT × Nat)) : Rs (GA × HT × Nat) :=
  match r with
  | .ok (hp, nx) => match resL P ⟨sl, hp, nx, []⟩ fn.results.toList with
    | some l => .ok (resOf l, hp, nx)
    | none => .bad [f, 1000007]
  | .bad l => .bad (f :: l)
noncomputable def endB (call : CallF) (P : Program) (regs F : Nat) (f : FuncId) (fn : Func) (r : Rs (GEx × St)) : Rs (GA × HT × Nat) :=
  match r with
  | .ok (.exit _, _) => .bad [f, 1000006]
  | .ok (_, s) => callE P f fn s.sl (callDs call P regs F s.df s.hp s.nx)
  | .bad l => .bad (f :: l)
noncomputable def callB (call : CallF) (P : Program) (regs F : Nat) (f : FuncId) (args : List GA) (hp : HT) (nx : Nat) : Rs (GA × HT × Nat) :=
  match codeOf P regs f args.length with
  | some (fn, c) => endB call P regs F f fn (run call P F c ⟨slotsT 0 args .leaf, hp, nx, []⟩)
  | none => .bad [f, 1000004]
/-- a function, run: calls so deep, loops so long; regs: the functions that were looked at -/
noncomputable def callN (P : Program) (regs F : Nat) (d : Nat) : CallF :=
  Nat.rec (motive := fun _ => CallF) (fun _ _ _ _ => .bad [1000003]) (fun _ ih => callB ih P regs F) d
end Go.Proofs.YtoebfmhogkjmgaaGreatDoor.Gx
