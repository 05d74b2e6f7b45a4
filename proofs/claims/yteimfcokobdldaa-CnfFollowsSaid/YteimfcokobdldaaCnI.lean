/- Spread: plain, and its walk. -/
import Derived.Test.YteimfcokobdldaaCnH
import Derived.Laws.MakeOwn
namespace Go.Proofs.Yteimfcokobdldaa
open Go.RowKit
set_option linter.unusedVariables false
/-- the literals that are handed in; none: two are contrary -/
def litsV : List Int → List Int → Option (List Int)
  | [], V => some V
  | x :: t, V => if ofV V x < 0 then none else litsV t (setV V x)
/-- the clauses once; none: all literals of one are false -/
def passV : List (List Int) → List Int → Bool → Option (List Int × Bool)
  | [], V, ag => some (V, ag)
  | c :: t, V, ag => if (unitL V c 0).2 = false then none else if (unitL V c 0).1 = 0 then passV t V ag else passV t (setV V (unitL V c 0).1) true
/-- again and again -/
def loopV (LL : List (List Int)) : Nat → List Int → Option (List Int)
  | 0, V => some V
  | k + 1, V => match passV LL V false with
    | none => none
    | some (V', false) => some V'
    | some (V', true) => loopV LL k V'
def zeros (V : List Int) : Nat := V.countP (· == 0)
def spreadV (n : Nat) (LL : List (List Int)) (lits : List Int) : Option (List Int) :=
  match litsV lits (List.replicate (n + 1) 0) with
  | none => none
  | some V => loopV LL (n + 3) V
def outTo (V : List Int) : Nat → List Int
  | 0 => []
  | k + 1 => outTo V k ++ if V.getD (k + 1) 0 = 0 then [] else [((k + 1 : Nat) : Int) * V.getD (k + 1) 0]
theorem setV_length (V : List Int) (x : Int) : (setV V x).length = V.length := by simp [setV]
theorem litsV_at (lits V : List Int) (k : Nat) (h : k < lits.length) : litsV (lits.drop k) V = if ofV V (lits.getD k 0) < 0 then none else litsV (lits.drop (k + 1)) (setV V (lits.getD k 0)) := by
  have e : lits.getD k 0 = lits[k] := by simp [h]
  rw [List.drop_eq_getElem_cons h, e]; rfl
theorem passV_at (LL : List (List Int)) (V : List Int) (ag : Bool) (k : Nat) (h : k < LL.length) :
    passV (LL.drop k) V ag = if (unitL V (LL.getD k []) 0).2 = false then none else if (unitL V (LL.getD k []) 0).1 = 0 then passV (LL.drop (k + 1)) V ag else passV (LL.drop (k + 1)) (setV V (unitL V (LL.getD k []) 0).1) true := by
  have e : LL.getD k [] = LL[k] := by simp [h]
  rw [List.drop_eq_getElem_cons h, e]; rfl
theorem unitL_open (V : List Int) : ∀ (c : List Int) (last : Int), (last ≠ 0 → ofV V last = 0) → ((unitL V c last).1 ≠ 0 → ofV V (unitL V c last).1 = 0 ∧ ((unitL V c last).1 = last ∨ (unitL V c last).1 ∈ c)) := by
  intro c
  induction c with
  | nil => intro last h hne; exact ⟨h hne, .inl rfl⟩
  | cons x t ih =>
    intro last h hne
    unfold unitL at hne ⊢
    split
    · rename_i h1; rw [if_pos h1] at hne; exact absurd rfl hne
    · rename_i h1
      rw [if_neg h1] at hne
      split
      · rename_i h2; rw [if_pos h2] at hne; exact absurd rfl hne
      · rename_i h2
        rw [if_neg h2] at hne
        split
        · rename_i h3
          rw [if_pos h3] at hne
          obtain ⟨r1, r2⟩ := ih x (fun _ => h3) hne
          exact ⟨r1, .inr (r2.elim (fun r2 => by rw [r2]; simp) (fun r2 => by simp [r2]))⟩
        · rename_i h3
          rw [if_neg h3] at hne
          obtain ⟨r1, r2⟩ := ih last h hne
          exact ⟨r1, r2.elim (fun r2 => .inl r2) (fun r2 => .inr (by simp [r2]))⟩
theorem zeros_set (V : List Int) (k : Nat) (u : Int) (hk : k < V.length) (h0 : V[k] = 0) (hu : u ≠ 0) : zeros (V.set k u) + 1 = zeros V := by
  unfold zeros
  induction V generalizing k with
  | nil => simp at hk
  | cons v t ih =>
    cases k with
    | zero =>
      simp at h0
      subst h0
      simp [hu]
    | succ k =>
      have := ih k (by simpa using hk) (by simpa using h0)
      simp only [List.set_cons_succ, List.countP_cons]
      omega
theorem zeros_setV (V : List Int) (x : Int) (hk : x.natAbs < V.length) (h0 : ofV V x = 0) : zeros (setV V x) + 1 = zeros V := by
  have hv : V[x.natAbs] = 0 := by
    have e : V.getD x.natAbs 0 = V[x.natAbs] := by simp [hk]
    rw [← e]
    unfold ofV at h0
    split at h0 <;> omega
  exact zeros_set V x.natAbs _ hk hv (by split <;> omega)
theorem zeros_le (V : List Int) : zeros V ≤ V.length := List.countP_le_length
theorem info_i8 : (Try.prog.info? 63).map (fun i => (i.zero, i.size, i.bytes)) = some (some (.int .i8 0), 1, 1) := by kernel_rfl
theorem made_i8 (m : Nat) : (madeCells (Value.int .i8 0).cells m).toList = i8Vals (List.replicate m 0) := by
  show (madeCells #[Value.int .i8 0] m).toList = _
  rw [toList_madeCells_one]
  simp [i8Vals]
theorem mk_vals (n : Nat) (hn : n ≤ 400) (w : World) : (Instr.makeSlice 62 (.int .i64 ((n : Int) + 1)) (.int .i64 ((n : Int) + 1))).run Try.prog w =
    .ok (.slice (some ⟨w.heap.size, 0, none⟩) (n + 1) (n + 1)) (w.alloc (.cells (i8Vals (List.replicate (n + 1) 0)).toArray 63)) := by
  obtain ⟨i, h1, h2, h3, h4⟩ := info_parts' info_i8
  have := run_make (P := Try.prog) w 62 63 i _ Try.underlying62 h1 h2 .i64 .i64 ((n : Int) + 1) ((n : Int) + 1) (by omega) (by omega) (by rw [h4]; omega) (by omega)
  rw [this, h3]
  have e : ((n : Int) + 1).toNat = n + 1 := by omega
  rw [e, Nat.mul_one, ← made_i8]
theorem newVals (w : World) (n : Nat) : ValsAt (w.alloc (.cells (i8Vals (List.replicate (n + 1) 0)).toArray 63)) w.heap.size (List.replicate (n + 1) 0) :=
  ⟨by have := varAt_new w (i8Vals (List.replicate (n + 1) 0)).toArray 63 _ rfl; simpa using this, fun v hv => by have := List.eq_of_mem_replicate hv; omega⟩
end Go.Proofs.Yteimfcokobdldaa
