/- Parts of the proofs, put together: FxB, FxC, FxD, FxE, FxF, FxG, FxH, FxI, FxJ, FxK. -/
import Derived.Test.YtiimkhnngpfnbaaR17
import Derived.OrdersHeld
/- The operations of a region, run on what the slots and variables hold, in one order for all. No program in sight. -/
namespace Go.Proofs.Ytiimkhnngpfnbaa.Fx
open Go.RowKit
set_option linter.unusedVariables false
set_option linter.unusedSimpArgs false
abbrev Slots := List (Nat × AV)
def sget : Slots → Nat → AV
  | [], _ => .dead
  | (k', o) :: h, k => if k' = k then o else sget h k
def sset : Slots → Nat → AV → Slots
  | [], k, o => [(k, o)]
  | (k', o') :: h, k, o => if k' = k then (k, o) :: h else (k', o') :: sset h k o
theorem sget_sset (H : Slots) (k k' : Nat) (o : AV) : sget (sset H k o) k' = if k = k' then o else sget H k' := by
  induction H with
  | nil => simp [sset, sget]
  | cons p t ih =>
    obtain ⟨q, u⟩ := p
    unfold sset
    by_cases h : q = k
    · subst h; simp only [if_true, sget]; split <;> rfl
    · simp only [if_neg h, sget, ih]
      by_cases h2 : q = k'
      · rw [if_pos h2, if_pos h2, if_neg (by omega)]
      · rw [if_neg h2, if_neg h2]
def sput (s : Slots) (d : Option Tmp) (v : AV) : Slots :=
  match d with
  | some d => sset s d v
  | none => s
theorem sget_sput (s : Slots) (d : Option Tmp) (v : AV) (t : Nat) : sget (sput s d v) t = if d = some t then v else sget s t := by
  cases d with
  | none => simp [sput]
  | some d => simp [sput, sget_sset]
/-- what a constant is -/
def constAV : Value → AV
  | .agg cs => if cs.toList.all (·.oneCell') then .agg (cs.toList.map fun x => .t (.v x)) else .dead
  | .tuple _ => .dead
  | v => .c (.t (.v v))
def ev (s : Slots) : Operand → AV
  | .tmp t => sget s t
  | .const v => constAV v
  | .global g => .c (.t (.v (.pointer (some ⟨g, 0, none⟩))))
  | .func f => .c (.fn (.func f) [] [])
def SlotsRep (c : Cx) (H : AHeap) (w : World) (a : Act) (s : Slots) : Prop := ∀ t, VRep c H w (a.tmps.getD t undef) (sget s t)
theorem constAV_rep (c : Cx) (H : AHeap) (w : World) (v : Value) : VRep c H w v (constAV v) := by
  unfold constAV
  split
  · rename_i cs
    split
    · rename_i h
      rw [List.all_eq_true] at h
      have e : Value.agg cs = .agg cs.toList.toArray := by simp
      rw [e]
      refine .agg _ _ (by simp) (fun i hi => ?_)
      have hi' : i < cs.toList.length := by simpa using hi
      have e1 : (cs.toList.map fun x => CV.t (.v x)).getD i .dead = .t (.v cs.toList[i]) := by simp [List.getD_eq_getElem?_getD, List.getElem?_map, List.getElem?_eq_getElem hi']
      have e2 : cs.toList.getD i undef = cs.toList[i] := by simp [List.getD_eq_getElem?_getD, List.getElem?_eq_getElem hi']
      rw [e1, e2]
      exact .t (.v _ (h _ (List.getElem_mem hi')))
    · exact .dead _
  · exact .dead _
  · rename_i h1 h2
    refine .c (.t (.v _ ?_))
    cases v <;> first | rfl | (exfalso; first | exact h1 _ rfl | exact h2 _ rfl)
theorem ev_rep {c : Cx} {H : AHeap} {w : World} {a : Act} {s : Slots} (h : SlotsRep c H w a s) (x : Operand) : VRep c H w (a.eval x) (ev s x) := by
  cases x with
  | tmp t => exact h t
  | const v => exact constAV_rep c H w v
  | global g => exact .c (.t (.v _ rfl))
  | func f => exact .c (.fn (.func f) [] [] [] [] rfl rfl (fun i hi => absurd hi (Nat.not_lt_zero _)) (fun i hi => absurd hi (Nat.not_lt_zero _)))
/-- an operation, run: from the heap H to H', and its value; whatever stands in the slots that it does not look at -/
def Step (P : Program) (o : Oper) (ρ : Operand → AV) (H H' : AHeap) (v : AV) : Prop :=
  ∀ (E : Ent) (c : Cx) (a : Act) (w : World) (K : Act → World → Prop) (Q : Exit → Act → World → Prop), Conc E c H w → (∀ x ∈ o.op.operands, VRep c H w (a.eval x) (ρ x)) →
    (∀ val c' w', Conc E c' H' w' → Later c H w c' H' w' → VRep c' H' w' val v → K (a.put o.dst val) w') → o.wp P a w K Q
/-- the same objects, as far as they are named -/
def SubH (H1 H : AHeap) : Prop := ∀ k o, hget H1 k = some o → hget H k = some o
/-- p: it looks at no variable, and changes none; r: it changes none; n: it makes one; w: any -/
inductive Kd where
  | p | r | n | w
  deriving DecidableEq
def StepK (P : Program) (k : Kd) (o : Oper) (ρ : Operand → AV) (H H' : AHeap) (v : AV) : Prop :=
  match k with
  | .p => H' = H ∧ ∀ H2, Step P o ρ H2 H2 v
  | .r => H' = H ∧ ∀ H2, SubH H H2 → Step P o ρ H2 H2 v
  | .n => ∃ d obj, hget H d = none ∧ H' = hset H d obj ∧ ∀ H2, hget H2 d = none → Step P o ρ H2 (hset H2 d obj) v
  | .w => Step P o ρ H H' v
theorem StepK.step {P : Program} {k : Kd} {o : Oper} {ρ : Operand → AV} {H H' : AHeap} {v : AV} (h : StepK P k o ρ H H' v) : Step P o ρ H H' v := by
  cases k with
  | p => obtain ⟨rfl, h⟩ := h; exact h _
  | r => obtain ⟨rfl, h⟩ := h; exact h _ (fun _ _ h => h)
  | n => obtain ⟨d, obj, h1, rfl, h⟩ := h; exact h _ h1
  | w => exact h
theorem Step.congr {P : Program} {o : Oper} {ρ ρ' : Operand → AV} {H H' : AHeap} {v : AV} (h : ∀ x ∈ o.op.operands, ρ x = ρ' x) (hs : Step P o ρ H H' v) : Step P o ρ' H H' v :=
  fun E c a w K Q hC hx hK => hs E c a w K Q hC (fun x hm => by rw [h x hm]; exact hx x hm) hK
theorem StepK.congr {P : Program} {k : Kd} {o : Oper} {ρ ρ' : Operand → AV} {H H' : AHeap} {v : AV} (h : ∀ x ∈ o.op.operands, ρ x = ρ' x) (hs : StepK P k o ρ H H' v) : StepK P k o ρ' H H' v := by
  cases k with
  | p => exact ⟨hs.1, fun H2 => (hs.2 H2).congr h⟩
  | r => exact ⟨hs.1, fun H2 h2 => (hs.2 H2 h2).congr h⟩
  | n => obtain ⟨d, obj, h1, h2, h3⟩ := hs; exact ⟨d, obj, h1, h2, fun H2 h4 => (h3 H2 h4).congr h⟩
  | w => exact Step.congr h hs
/-- is the operation wanted? -/
def wanted1 (ops : Array Oper) (s : Slots) (o : Oper) : Option Bool :=
  match o.guard with
  | none => some true
  | some (j, want) =>
    match (ops[j]?).bind (·.dst) with
    | none => some false
    | some d =>
      match sget s d with
      | .c (.t (.v (.bool b))) => some (b == want)
      | .tup [] => some false
      | _ => none
theorem wanted1_rep {c : Cx} {H : AHeap} {w : World} {a : Act} {s : Slots} {ops : Array Oper} {o : Oper} {b : Bool} (h : SlotsRep c H w a s) (hw : wanted1 ops s o = some b) : Region.wanted o (yielded ops a.tmps) = b := by
  unfold wanted1 at hw
  unfold Region.wanted
  split at hw
  · rename_i hg; rw [hg]; injection hw
  · rename_i j want hg
    rw [hg]
    simp only
    unfold yielded
    split at hw
    · rename_i hd; rw [hd]; simp only [Option.bind_none]; injection hw
    · rename_i d hd
      rw [hd]
      simp only [Option.bind_some]
      have hd2 := h d
      split at hw
      · rename_i b2 hb
        rw [hb] at hd2
        injection hw with hw
        generalize hq : a.tmps.getD d undef = q at hd2
        cases hd2 with
        | c h2 => cases h2 with
          | t h3 =>
            cases h3
            have : a.tmps[d]? = some (.bool b2) := by
              rw [Array.getD_eq_getD_getElem?] at hq
              cases e : a.tmps[d]? with
              | none => rw [e] at hq; cases hq
              | some u => rw [e] at hq; simp at hq; rw [hq]
            rw [this]
            simp only
            rw [← hw]; cases b2 <;> cases want <;> rfl
      · rename_i hb
        rw [hb] at hd2
        injection hw with hw
        generalize hq : a.tmps.getD d undef = q at hd2
        cases hd2 with
        | tup vs l hl _ =>
          have : a.tmps[d]? = none ∨ a.tmps[d]? = some (.tuple vs.toArray) := by
            rw [Array.getD_eq_getD_getElem?] at hq
            cases e : a.tmps[d]? with
            | none => exact .inl rfl
            | some u => rw [e] at hq; simp at hq; rw [hq]; exact .inr rfl
          rcases this with e | e <;> rw [e] <;> simp only <;> rw [← hw] <;> rfl
      · cases hw
structure ASt where
  sl : Slots
  hp : AHeap
/-- the operations, one behind the other -/
def RunL (P : Program) (ops : Array Oper) : List (Nat × Kd) → ASt → (ASt → Prop) → Prop
  | [], s, K => K s
  | (i, k) :: r, s, K => ∃ o, ops[i]? = some o ∧
      ((wanted1 ops s.sl o = some true ∧ ∃ v H', StepK P k o (ev s.sl) s.hp H' v ∧ RunL P ops r ⟨sput s.sl o.dst v, H'⟩ K) ∨
       (wanted1 ops s.sl o = some false ∧ RunL P ops r ⟨sput s.sl o.dst (.tup []), s.hp⟩ K))
/-- the same in all slots -/
def Same (s s' : ASt) : Prop := (∀ t, sget s.sl t = sget s'.sl t) ∧ s.hp = s'.hp
theorem Same.refl (s : ASt) : Same s s := ⟨fun _ => rfl, rfl⟩
theorem Same.ev {s s' : ASt} (h : Same s s') : ev s.sl = ev s'.sl := by
  funext x; cases x with
  | tmp t => exact h.1 t
  | _ => rfl
theorem Same.wanted {s s' : ASt} (h : Same s s') (ops : Array Oper) (o : Oper) : wanted1 ops s.sl o = wanted1 ops s'.sl o := by
  unfold wanted1
  split
  · rfl
  · rename_i j want hg
    cases hd : (ops[j]?).bind (·.dst) with
    | none => rfl
    | some d => simp only [h.1 d]
theorem Same.put {s s' : ASt} (h : Same s s') (d : Option Tmp) (v : AV) (H : AHeap) : Same ⟨sput s.sl d v, H⟩ ⟨sput s'.sl d v, H⟩ :=
  ⟨fun t => by simp only [sget_sput]; rw [h.1 t], rfl⟩
theorem RunL.same {P : Program} {ops : Array Oper} {K : ASt → Prop} (hK : ∀ s s', Same s s' → K s → K s') : ∀ (L : List (Nat × Kd)) (s s' : ASt), Same s s' → RunL P ops L s K → RunL P ops L s' K := by
  intro L
  induction L with
  | nil => intro s s' h hr; exact hK s s' h hr
  | cons x r ih =>
    obtain ⟨i, k⟩ := x
    intro s s' h hr
    obtain ⟨o, ho, hr⟩ := hr
    refine ⟨o, ho, ?_⟩
    rw [← h.wanted ops o, ← h.ev, ← h.2]
    rcases hr with ⟨hw, v, H', hs, hr⟩ | ⟨hw, hr⟩
    · exact .inl ⟨hw, v, H', hs, ih _ _ (h.put _ _ _) hr⟩
    · exact .inr ⟨hw, ih _ _ (by rw [h.2]; exact h.put _ _ _) hr⟩
def kindOk : Kd → Kd → Bool
  | .p, _ => true
  | _, .p => true
  | .r, .r => true
  | .r, .n => true
  | _, _ => false
theorem ev_put {ops : Array Oper} {s : Slots} {d : Option Tmp} {v : AV} {o : Oper} (h : ∀ x, d = some x → x ∉ o.looksAt ops) : ∀ x ∈ o.op.operands, ev (sput s d v) x = ev s x := by
  intro x hx
  cases x with
  | tmp t =>
    show sget (sput s d v) t = sget s t
    rw [sget_sput]
    split
    · rename_i e
      exact (h t e (List.mem_append_left _ (List.mem_filterMap.2 ⟨.tmp t, Array.mem_toList_iff.2 hx, rfl⟩))).elim
    · rfl
  | _ => rfl
theorem wanted_put1 {ops : Array Oper} {s : Slots} {d : Option Tmp} {v : AV} {o : Oper} (h : ∀ x, d = some x → x ∉ o.looksAt ops) : wanted1 ops (sput s d v) o = wanted1 ops s o := by
  unfold wanted1
  split
  · rfl
  · rename_i j want hg
    cases hd : (ops[j]?).bind (·.dst) with
    | none => rfl
    | some e =>
      have e3 : sget (sput s d v) e = sget s e := by
        rw [sget_sput, if_neg]
        intro e2
        refine h e e2 (List.mem_append_right _ ?_)
        rw [hg]; simp [hd]
      simp only [e3]
theorem RunL.swap {P : Program} {ops : Array Oper} {K : ASt → Prop} (hK : ∀ s s', Same s s' → K s → K s') {x i : Nat} {κ ι : Kd} {R : List (Nat × Kd)} {s : ASt} {ox oi : Oper} (hx : ops[x]? = some ox) (hi : ops[i]? = some oi)
    (ha : ox.apart ops oi = true) (hk : kindOk κ ι = true) (h : RunL P ops ((x, κ) :: (i, ι) :: R) s K) : RunL P ops ((i, ι) :: (x, κ) :: R) s K := by
  obtain ⟨a1, a2, a3⟩ := Oper.apart_spec ha
  obtain ⟨o, ho, h⟩ := h
  rw [hx] at ho; injection ho with ho; subst ho
  refine ⟨oi, hi, ?_⟩
  have hsame : ∀ (sl : Slots) (vx vi : AV) (H : AHeap), Same ⟨sput (sput sl ox.dst vx) oi.dst vi, H⟩ ⟨sput (sput sl oi.dst vi) ox.dst vx, H⟩ := fun sl vx vi H => ⟨fun t => by
    simp only [sget_sput]
    by_cases e1 : oi.dst = some t
    · rw [if_pos e1, if_neg (fun e => a2 t e e1), if_pos e1]
    · rw [if_neg e1]
      by_cases e2 : ox.dst = some t
      · rw [if_pos e2, if_pos e2]
      · rw [if_neg e2, if_neg e2, if_neg e1], rfl⟩
  rcases h with ⟨hw, v, H', hs, o2, ho2, h⟩ | ⟨hw, o2, ho2, h⟩ <;> (rw [hi] at ho2; injection ho2 with ho2; subst ho2; dsimp only at h; rw [wanted_put1 a1] at h)
  · rcases h with ⟨hw2, v2, H2, hs2, h⟩ | ⟨hw2, h⟩
    · have hs2' := hs2.congr (ev_put (s := s.sl) (d := ox.dst) (v := v) a1)
      have key : ∃ Hm, StepK P ι oi (ev s.sl) s.hp Hm v2 ∧ StepK P κ ox (ev s.sl) Hm H2 v := by
        cases κ with
        | p =>
          obtain ⟨rfl, hp⟩ := hs
          exact ⟨H2, hs2', rfl, hp⟩
        | r => cases ι with
          | p => obtain ⟨rfl, hp⟩ := hs2'; exact ⟨s.hp, ⟨rfl, hp⟩, hs⟩
          | r =>
            obtain ⟨rfl, h1⟩ := hs
            obtain ⟨rfl, h2⟩ := hs2'
            exact ⟨_, ⟨rfl, h2⟩, rfl, h1⟩
          | n =>
            obtain ⟨rfl, h1⟩ := hs
            obtain ⟨d, obj, g1, rfl, g2⟩ := hs2'
            refine ⟨_, ⟨d, obj, g1, rfl, g2⟩, rfl, fun H3 h3 => h1 H3 (fun k o hk => h3 k o ?_)⟩
            rw [hget_hset]
            split
            · rename_i e; subst e; rw [g1] at hk; cases hk
            · exact hk
          | w => cases hk
        | n => cases ι with
          | p => obtain ⟨rfl, hp⟩ := hs2'; exact ⟨s.hp, ⟨rfl, hp⟩, hs⟩
          | r => cases hk
          | n => cases hk
          | w => cases hk
        | w => cases ι with
          | p => obtain ⟨rfl, hp⟩ := hs2'; exact ⟨s.hp, ⟨rfl, hp⟩, hs⟩
          | r => cases hk
          | n => cases hk
          | w => cases hk
      obtain ⟨Hm, k1, k2⟩ := key
      refine .inl ⟨hw2, v2, Hm, k1, ox, hx, .inl ⟨by dsimp only; rw [wanted_put1 a3]; exact hw, v, H2, ?_, RunL.same hK _ _ _ (hsame _ _ _ _) h⟩⟩
      exact k2.congr (fun y hy => (ev_put a3 y hy).symm)
    · refine .inr ⟨hw2, ox, hx, .inl ⟨by dsimp only; rw [wanted_put1 a3]; exact hw, v, H', ?_, RunL.same hK _ _ _ (hsame _ _ _ _) h⟩⟩
      exact hs.congr (fun y hy => (ev_put a3 y hy).symm)
  · rcases h with ⟨hw2, v2, H2, hs2, h⟩ | ⟨hw2, h⟩
    · have hs2' := hs2.congr (ev_put (s := s.sl) (d := ox.dst) (v := .tup []) a1)
      exact .inl ⟨hw2, v2, H2, hs2', ox, hx, .inr ⟨by dsimp only; rw [wanted_put1 a3]; exact hw, RunL.same hK _ _ _ (hsame _ _ _ _) h⟩⟩
    · exact .inr ⟨hw2, ox, hx, .inr ⟨by dsimp only; rw [wanted_put1 a3]; exact hw, RunL.same hK _ _ _ (hsame _ _ _ _) h⟩⟩
/-- a number, worked out before it is used -/
def forceN {α : Type} (n : Nat) (k : Nat → α) : α := match n with | 0 => k 0 | m + 1 => k (m + 1)
theorem forceN_eq {α : Type} (n : Nat) (k : Nat → α) : forceN n k = k n := by cases n <;> rfl
/-- behind which others each operation stands, bit by bit, 256 bits an operation -/
def rowN (M i : Nat) : Nat := (M >>> (256 * i)) % 2 ^ 256
def maskE (M : Nat) (s : Nat) (e : Edge) : Nat := if Region.binds .any e then s ||| 2 ^ e.on ||| rowN M e.on else s
def maskN : List Oper → Nat → Nat → Nat
  | [], _, M => M
  | o :: t, i, M => forceN (M ||| ((o.after.toList.foldl (maskE M) 0 % 2 ^ 256) <<< (256 * i))) fun M' => maskN t (i + 1) M'
def bitN (M i x : Nat) : Bool := decide (x < 256) && M.testBit (256 * i + x)
def pairOk (ops : Array Oper) (ms : Nat) (x i : Nat × Kd) : Bool :=
  match ops[x.1]?, ops[i.1]? with
  | some ox, some oi => x.1 != i.1 && !(ox.after.any fun e => Region.binds .any e && e.on == i.1) && ((ox.apart ops oi && kindOk x.2 i.2) || bitN ms i.1 x.1)
  | _, _ => false
def pairsOk (ops : Array Oper) (ms : Nat) : List (Nat × Kd) → Bool
  | [] => true
  | x :: t => t.all (pairOk ops ms x) && pairsOk ops ms t
def selfOk (ops : Array Oper) (x : Nat × Kd) : Bool :=
  match ops[x.1]? with
  | some o => o.after.all (fun e => !Region.binds .any e || (e.on != x.1 && e.on < ops.size))
  | none => false
/-- may the operations come in any order? -/
def calm (ops : Array Oper) (order : List (Nat × Kd)) : Bool :=
  forceN (maskN ops.toList 0 0) (fun M => pairsOk ops M order) && (List.range ops.size).all (fun i => order.any (·.1 == i)) && order.all (selfOk ops)
def dstsOk (n : Nat) (ops : Array Oper) : Bool := ops.toList.all fun o => match o.dst with | some d => decide (d < n) | none => true
section
variable {P : Program} {ops : Array Oper} {Q : Exit → Act → World → Prop}
/-- what is listed holds what it stands behind -/
def Closed (ops : Array Oper) (L : Nat → Prop) : Prop := ∀ j, L j → ∀ o, ops[j]? = some o → ∀ e ∈ o.after, Region.binds .any e = true → L e.on
theorem rowN_bit (M i k : Nat) (h : k < 256) : (rowN M i).testBit k = M.testBit (256 * i + k) := by
  unfold rowN
  rw [Nat.testBit_mod_two_pow, Nat.testBit_shiftRight, decide_eq_true h, Bool.true_and]
theorem fold_mask (L : Nat → Prop) (M : Nat) (hM : ∀ x, L x → ∀ k, k < 256 → M.testBit (256 * x + k) = true → L k) : ∀ (l : List Edge) (s : Nat), (∀ e ∈ l, Region.binds .any e = true → L e.on) → (∀ k, k < 256 → s.testBit k = true → L k) →
    ∀ k, k < 256 → (l.foldl (maskE M) s).testBit k = true → L k := by
  intro l
  induction l with
  | nil => intro s _ hs k h1 hk; exact hs k h1 hk
  | cons e t ih =>
    intro s he hs k h1 hk
    rw [List.foldl_cons] at hk
    refine ih _ (fun e' h' hb => he e' (List.mem_cons_of_mem _ h') hb) ?_ k h1 hk
    intro k h1 hk
    unfold maskE at hk
    split at hk
    · rename_i hb
      have hl := he e List.mem_cons_self hb
      rw [Nat.testBit_or, Nat.testBit_or, Bool.or_eq_true, Bool.or_eq_true] at hk
      rcases hk with (hk | hk) | hk
      · exact hs k h1 hk
      · rw [Nat.testBit_two_pow] at hk
        have := of_decide_eq_true hk
        subst this; exact hl
      · rw [rowN_bit _ _ _ h1] at hk
        exact hM _ hl k h1 hk
    · exact hs k h1 hk
theorem maskN_spec {L : Nat → Prop} (hL : Closed ops L) : ∀ (l : List Oper) (i M : Nat), (∀ j, l[j]? = ops[i + j]?) →
    (∀ j, (∀ o, ops[j]? = some o → ∀ e ∈ o.after, Region.binds .any e = true → L e.on) → ∀ k, k < 256 → M.testBit (256 * j + k) = true → L k) →
    ∀ j, (∀ o, ops[j]? = some o → ∀ e ∈ o.after, Region.binds .any e = true → L e.on) → ∀ k, k < 256 → (maskN l i M).testBit (256 * j + k) = true → L k := by
  intro l
  induction l with
  | nil => intro i M _ h; exact h
  | cons o t ih =>
    intro i M hl hM
    unfold maskN
    rw [forceN_eq]
    have h0 : ops[i]? = some o := by have := hl 0; simpa using this.symm
    refine ih _ _ (fun j => ?_) (fun j hj k h1 hk => ?_)
    · have := hl (j + 1)
      rw [Nat.add_assoc, Nat.add_comm 1 j]
      simpa using this
    · rw [Nat.testBit_or, Bool.or_eq_true] at hk
      rcases hk with hk | hk
      · exact hM j hj k h1 hk
      · rw [Nat.testBit_shiftLeft, Bool.and_eq_true, Nat.testBit_mod_two_pow, Bool.and_eq_true] at hk
        obtain ⟨h2, h3, h4⟩ := hk
        have h2' := of_decide_eq_true h2
        have h3' := of_decide_eq_true h3
        have e : j = i := by omega
        subst e
        rw [show 256 * j + k - 256 * j = k by omega] at h4
        exact fold_mask L M (fun x hx k h1 hk => hM x (fun o ho e he hb => hL x hx o ho e he hb) k h1 hk) _ 0 (fun e he hb => hj o h0 e (Array.mem_toList_iff.1 he) hb) (fun k _ hk => by simp at hk) k h1 h4
theorem put_getD {a : Act} {d : Option Tmp} {v : Value} {n : Nat} (hn : a.tmps.size = n) (hd : ∀ x, d = some x → x < n) (t : Nat) : (a.put d v).tmps.getD t undef = if d = some t then v else a.tmps.getD t undef := by
  cases d with
  | none => simp [Act.put]
  | some d =>
    simp only [Act.put]
    have := hd d rfl
    by_cases h : d = t
    · subst h; simp [Array.getD_eq_getD_getElem?, Array.getElem?_setIfInBounds, hn, this]
    · rw [if_neg (fun e => h (by injection e))]
      simp [Array.getD_eq_getD_getElem?, Array.getElem?_setIfInBounds_ne h]
theorem put_rep {c : Cx} {H : AHeap} {w : World} {a : Act} {s : Slots} {d : Option Tmp} {val : Value} {v : AV} {n : Nat} (hn : a.tmps.size = n) (hd : ∀ x, d = some x → x < n) (h : SlotsRep c H w a s) (hv : VRep c H w val v) : SlotsRep c H w (a.put d val) (sput s d v) := by
  intro t
  rw [put_getD hn hd, sget_sput]
  split
  · exact hv
  · exact h t
theorem put_size (a : Act) (d : Option Tmp) (v : Value) : (a.put d v).tmps.size = a.tmps.size := by cases d <;> simp [Act.put]
theorem put_defers (a : Act) (d : Option Tmp) (v : Value) : (a.put d v).defers = a.defers := by cases d <;> rfl
/-- a state, told: of n slots, none deferred -/
structure Told (n : Nat) (E : Ent) (s : ASt) (a : Act) (w : World) : Prop where
  ex : ∃ c, Conc E c s.hp w ∧ SlotsRep c s.hp w a s.sl
  size : a.tmps.size = n
  defers : a.defers = []
theorem Told.same {n : Nat} {E : Ent} {s s' : ASt} {a : Act} {w : World} (h : Told n E s a w) (hs : Same s s') : Told n E s' a w := by
  obtain ⟨⟨c, h1, h2⟩, h3, h4⟩ := h
  refine ⟨⟨c, by rw [← hs.2]; exact h1, fun t => ?_⟩, h3, h4⟩
  rw [← hs.1 t, ← hs.2]; exact h2 t
theorem told_step {n : Nat} {E : Ent} {s : ASt} {a : Act} {w : World} {o : Oper} {H' : AHeap} {v : AV} (hd : ∀ x, o.dst = some x → x < n) (h : Told n E s a w) (hs : Step P o (ev s.sl) s.hp H' v) {K : Act → World → Prop}
    (hK : ∀ a' w', Told n E ⟨sput s.sl o.dst v, H'⟩ a' w' → K a' w') : o.wp P a w K Q := by
  obtain ⟨⟨c, h1, h2⟩, h3, h4⟩ := h
  refine hs E c a w K Q h1 (fun x _ => ev_rep h2 x) (fun val c' w' g1 g2 g3 => hK _ _ ⟨⟨c', g1, ?_⟩, by rw [put_size]; exact h3, by rw [put_defers]; exact h4⟩)
  exact put_rep h3 hd (fun t => (h2 t).later g2) g3
theorem told_skip {n : Nat} {E : Ent} {s : ASt} {a : Act} {w : World} {d : Option Tmp} (hd : ∀ x, d = some x → x < n) (h : Told n E s a w) : Told n E ⟨sput s.sl d (.tup []), s.hp⟩ (a.put d undef) w := by
  obtain ⟨⟨c, h1, h2⟩, h3, h4⟩ := h
  exact ⟨⟨c, h1, put_rep h3 hd h2 (.tup [] [] rfl (fun i hi => absurd hi (Nat.not_lt_zero _)))⟩, by rw [put_size]; exact h3, by rw [put_defers]; exact h4⟩
theorem dsts_spec {n : Nat} (h : dstsOk n ops = true) {i : Nat} {o : Oper} (ho : ops[i]? = some o) : ∀ x, o.dst = some x → x < n := by
  intro x hx
  have := List.all_eq_true.1 h o (by simpa using Array.mem_of_getElem? ho)
  rw [hx] at this
  exact of_decide_eq_true this
/-- in the text's order -/
theorem run_text {n : Nat} (hd : dstsOk n ops = true) {E : Ent} {K : ASt → Prop} (hK : ∀ s a w, Told n E s a w → K s → Q .normal a w) : ∀ (L : List (Nat × Kd)) (s : ASt) (a : Act) (w : World), Told n E s a w → RunL P ops L s K → wpOps P ops Q (L.map (·.1)) a w := by
  intro L
  induction L with
  | nil => intro s a w h hr; exact hK s a w h hr
  | cons x r ih =>
    obtain ⟨i, k⟩ := x
    intro s a w h hr
    obtain ⟨o, ho, hr⟩ := hr
    rw [List.map_cons, wpOps_cons]
    unfold wpOp
    rw [ho]
    simp only
    rcases hr with ⟨hw, v, H', hs, hr⟩ | ⟨hw, hr⟩
    · obtain ⟨c, _, h2⟩ := h.ex
      rw [wanted1_rep h2 hw, if_pos rfl]
      exact .inl (told_step (dsts_spec hd ho) h hs.step (fun a' w' h' => ih _ a' w' h' hr))
    · obtain ⟨c, _, h2⟩ := h.ex
      rw [wanted1_rep h2 hw, if_neg (by simp)]
      exact ih _ _ _ (told_skip (dsts_spec hd ho) h) hr
/-- one that may come up now may come first -/
theorem RunL.front {K : ASt → Prop} (hK : ∀ s s', Same s s' → K s → K s') {ms : Nat} {i : Nat} {ι : Kd} :
    ∀ (R1 R2 : List (Nat × Kd)) (s : ASt), (∀ x ∈ R1, pairOk ops ms x (i, ι) = true) → (∀ x ∈ R1, bitN ms i x.1 = false) → RunL P ops (R1 ++ (i, ι) :: R2) s K → RunL P ops ((i, ι) :: (R1 ++ R2)) s K := by
  intro R1
  induction R1 with
  | nil => intro R2 s _ _ h; exact h
  | cons x t ih =>
    obtain ⟨x, κ⟩ := x
    intro R2 s hp hm h
    have h2 : RunL P ops ((x, κ) :: (i, ι) :: (t ++ R2)) s K := by
      obtain ⟨o, ho, h⟩ := h
      refine ⟨o, ho, ?_⟩
      rcases h with ⟨hw, v, H', hs, h⟩ | ⟨hw, h⟩
      · exact .inl ⟨hw, v, H', hs, ih R2 _ (fun y hy => hp y (List.mem_cons_of_mem _ hy)) (fun y hy => hm y (List.mem_cons_of_mem _ hy)) h⟩
      · exact .inr ⟨hw, ih R2 _ (fun y hy => hp y (List.mem_cons_of_mem _ hy)) (fun y hy => hm y (List.mem_cons_of_mem _ hy)) h⟩
    have hpx := hp _ List.mem_cons_self
    have hmx := hm _ List.mem_cons_self
    unfold pairOk at hpx
    cases hox : ops[x]? with
    | none => rw [hox] at hpx; simp at hpx
    | some ox =>
      cases hoi : ops[i]? with
      | none => rw [hox, hoi] at hpx; simp at hpx
      | some oi =>
        rw [hox, hoi] at hpx
        dsimp only at hpx hmx
        rw [hmx, Bool.or_false, Bool.and_eq_true, Bool.and_eq_true] at hpx
        exact RunL.swap hK hox hoi (Bool.and_eq_true_iff.1 hpx.2).1 (Bool.and_eq_true_iff.1 hpx.2).2 h2
end
end Go.Proofs.Ytiimkhnngpfnbaa.Fx
/- Regions in whatever order, and code, on what the slots and variables hold. No program in sight. -/
namespace Go.Proofs.Ytiimkhnngpfnbaa.Fx
open Go.RowKit
set_option linter.unusedVariables false
set_option linter.unusedSimpArgs false
section
variable {P : Program} {ops : Array Oper} {Q : Exit → Act → World → Prop}
structure AnyInv (ops : Array Oper) (listed : Array Bool) (R : List (Nat × Kd)) : Prop where
  sz : listed.size = ops.size
  un : ∀ j, j < ops.size → (listed.getD j true = false ↔ ∃ k, (j, k) ∈ R)
  pairs : pairsOk ops (maskN ops.toList 0 0) R = true
  self : ∀ x ∈ R, selfOk ops x = true
  closed : Closed ops (fun j => listed.getD j false = true)
theorem getD_two {listed : Array Bool} {j : Nat} (h : j < listed.size) : listed.getD j false = listed.getD j true := by
  simp [h]
theorem pairs_front {ms : Nat} : ∀ (R1 R2 : List (Nat × Kd)) (x : Nat × Kd), pairsOk ops ms (R1 ++ x :: R2) = true → (∀ y ∈ R1, pairOk ops ms y x = true) ∧ (∀ y ∈ R2, pairOk ops ms x y = true) ∧ pairsOk ops ms (R1 ++ R2) = true := by
  intro R1
  induction R1 with
  | nil =>
    intro R2 x h
    simp only [List.nil_append, pairsOk, Bool.and_eq_true, List.all_eq_true] at h
    exact ⟨fun y hy => (by cases hy), h.1, h.2⟩
  | cons z t ih =>
    intro R2 x h
    simp only [List.cons_append, pairsOk, Bool.and_eq_true, List.all_eq_true] at h
    obtain ⟨h1, h2⟩ := h
    obtain ⟨i1, i2, i3⟩ := ih R2 x h2
    refine ⟨fun y hy => ?_, i2, ?_⟩
    · rcases List.mem_cons.1 hy with rfl | hy
      · exact h1 x (by simp)
      · exact i1 y hy
    · simp only [List.cons_append, pairsOk, Bool.and_eq_true, List.all_eq_true]
      refine ⟨fun y hy => h1 y ?_, i3⟩
      rcases List.mem_append.1 hy with hy | hy
      · exact List.mem_append_left _ hy
      · exact List.mem_append_right _ (List.mem_cons_of_mem _ hy)
theorem pairOk_ne {ms : Nat} {x y : Nat × Kd} (h : pairOk ops ms x y = true) : x.1 ≠ y.1 := by
  unfold pairOk at h
  split at h
  · simp only [Bool.and_eq_true, bne_iff_ne] at h
    exact h.1.1
  · cases h
theorem pairOk_edge {ms : Nat} {x y : Nat × Kd} (h : pairOk ops ms x y = true) {o : Oper} (ho : ops[x.1]? = some o) : ∀ e ∈ o.after, Region.binds .any e = true → e.on ≠ y.1 := by
  intro e he hb hc
  unfold pairOk at h
  rw [ho] at h
  split at h
  · rename_i ox oi h1 h2
    injection h1 with h1; subst h1
    simp only [Bool.and_eq_true, Bool.not_eq_true'] at h
    have := h.1.2
    rw [Array.any_eq_false'] at this
    exact this e he (by simp [hb, hc])
  · cases h
theorem self_edge {x : Nat × Kd} (h : selfOk ops x = true) : ∃ o, ops[x.1]? = some o ∧ ∀ e ∈ o.after, Region.binds .any e = true → e.on ≠ x.1 ∧ e.on < ops.size := by
  unfold selfOk at h
  split at h
  · rename_i o ho
    refine ⟨o, ho, fun e he hb => ?_⟩
    have := Array.all_eq_true_iff_forall_mem.1 h e he
    simp only [hb, Bool.not_true, Bool.false_or, Bool.and_eq_true, bne_iff_ne, decide_eq_true_eq] at this
    exact this
  · cases h
theorem AnyInv.head {listed : Array Bool} {x : Nat × Kd} {R : List (Nat × Kd)} (h : AnyInv ops listed (x :: R)) : x.1 ∈ Region.ready .any ops listed := by
  obtain ⟨o, ho, hs⟩ := self_edge (h.self x List.mem_cons_self)
  have hp := h.pairs
  simp only [pairsOk, Bool.and_eq_true, List.all_eq_true] at hp
  have hlt : x.1 < ops.size := (Array.getElem?_eq_some_iff.1 ho).1
  rw [mem_ready]
  refine ⟨(h.un _ hlt).2 ⟨x.2, List.mem_cons_self⟩, o, ho, fun e he hb => ?_⟩
  obtain ⟨e1, e2⟩ := hs e he hb
  rw [getD_two (by rw [h.sz]; exact e2)]
  apply Classical.byContradiction
  intro hn
  have hn' : listed.getD e.on true = false := by simpa using hn
  obtain ⟨k, hk⟩ := (h.un _ e2).1 hn'
  rcases List.mem_cons.1 hk with hk | hk
  · exact e1 (by rw [← hk])
  · exact pairOk_edge (hp.1 _ hk) ho e he hb rfl
theorem AnyInv.step {listed : Array Bool} {R1 R2 : List (Nat × Kd)} {i : Nat} {k : Kd} (h : AnyInv ops listed (R1 ++ (i, k) :: R2)) (hr : i ∈ Region.ready .any ops listed) : AnyInv ops (listed.setIfInBounds i true) (R1 ++ R2) := by
  obtain ⟨p1, p2, p3⟩ := pairs_front R1 R2 (i, k) h.pairs
  obtain ⟨h0, o, ho, hall⟩ := mem_ready.1 hr
  have hlt : i < ops.size := (Array.getElem?_eq_some_iff.1 ho).1
  refine ⟨by simp [h.sz], fun j hj => ?_, p3, fun x hx => h.self x ?_, fun j hj o' ho' e he hb => ?_⟩
  · by_cases hij : i = j
    · subst hij
      constructor
      · intro e
        rw [Array.getD_eq_getD_getElem?, Array.getElem?_setIfInBounds_self_of_lt (by rw [h.sz]; exact hlt)] at e
        cases e
      · rintro ⟨k', hk'⟩
        rcases List.mem_append.1 hk' with hk' | hk'
        · exact (pairOk_ne (p1 (i, k') hk') rfl).elim
        · exact (pairOk_ne (p2 (i, k') hk') rfl).elim
    · rw [getD_set_ne true hij, h.un j hj]
      constructor
      · rintro ⟨k', hk'⟩
        refine ⟨k', ?_⟩
        rcases List.mem_append.1 hk' with hk' | hk'
        · exact List.mem_append_left _ hk'
        · rcases List.mem_cons.1 hk' with hk' | hk'
          · injection hk' with e _; exact absurd e.symm hij
          · exact List.mem_append_right _ hk'
      · rintro ⟨k', hk'⟩
        refine ⟨k', ?_⟩
        rcases List.mem_append.1 hk' with hk' | hk'
        · exact List.mem_append_left _ hk'
        · exact List.mem_append_right _ (List.mem_cons_of_mem _ hk')
  · rcases List.mem_append.1 hx with hx | hx
    · exact List.mem_append_left _ hx
    · exact List.mem_append_right _ (List.mem_cons_of_mem _ hx)
  · by_cases hij : i = j
    · subst hij
      rw [ho] at ho'; injection ho' with ho'; subst ho'
      exact getD_set_true (hall e he hb)
    · have hj' : (listed.setIfInBounds i true).getD j false = true := hj
      rw [getD_set_ne false hij] at hj'
      exact getD_set_true (h.closed j hj' o' ho' e he hb)
/-- in whatever order -/
theorem run_any {n : Nat} (hd : dstsOk n ops = true) {E : Ent} {K : ASt → Prop} (hKs : ∀ s s', Same s s' → K s → K s') (hK : ∀ s a w, Told n E s a w → K s → Q .normal a w) : ∀ (fuel : Nat) (listed : Array Bool) (R : List (Nat × Kd)) (s : ASt) (a : Act) (w : World),
    R.length ≤ fuel → AnyInv ops listed R → Told n E s a w → RunL P ops R s K → wpAny P .any ops Q fuel listed a w := by
  intro fuel
  induction fuel with
  | zero =>
    intro listed R s a w hf hI h hr
    have hR : R = [] := List.length_eq_zero_iff.1 (by omega)
    subst hR
    refine ⟨?_, hK s a w h hr⟩
    cases hc : Region.ready .any ops listed with
    | nil => rfl
    | cons i t =>
      have hm : i ∈ Region.ready .any ops listed := by rw [hc]; exact List.mem_cons_self
      obtain ⟨h0, o, ho, _⟩ := mem_ready.1 hm
      obtain ⟨k, hk⟩ := (hI.un i (Array.getElem?_eq_some_iff.1 ho).1).1 h0
      cases hk
  | succ fuel ih =>
    intro listed R s a w hf hI h hr
    refine ⟨fun h0 => ?_, fun i hi => ?_⟩
    · cases R with
      | nil => exact hK s a w h hr
      | cons x R =>
        have := hI.head
        rw [h0] at this; cases this
    · obtain ⟨h0, o, ho, hall⟩ := mem_ready.1 hi
      obtain ⟨k, hk⟩ := (hI.un i (Array.getElem?_eq_some_iff.1 ho).1).1 h0
      obtain ⟨R1, R2, rfl⟩ := List.append_of_mem hk
      obtain ⟨p1, p2, p3⟩ := pairs_front R1 R2 (i, k) hI.pairs
      have hm : ∀ x ∈ R1, bitN (maskN ops.toList 0 0) i x.1 = false := by
        intro x hx
        apply Classical.byContradiction
        intro hb
        have hb' : bitN (maskN ops.toList 0 0) i x.1 = true := by simpa using hb
        unfold bitN at hb'
        rw [Bool.and_eq_true] at hb'
        have hl := maskN_spec hI.closed ops.toList 0 0 (fun j => by simp) (fun j _ k _ hk => by simp at hk) i (fun o' ho' e he hbi => by
          rw [ho] at ho'; injection ho' with ho'; subst ho'
          exact hall e he hbi) x.1 (of_decide_eq_true hb'.1) hb'.2
        obtain ⟨ox, hox, _⟩ := self_edge (hI.self x (List.mem_append_left _ hx))
        have hlt : x.1 < ops.size := (Array.getElem?_eq_some_iff.1 hox).1
        have := (hI.un x.1 hlt).2 ⟨x.2, List.mem_append_left _ hx⟩
        rw [getD_two (by rw [hI.sz]; exact hlt), this] at hl
        cases hl
      have hr2 := RunL.front hKs (ms := maskN ops.toList 0 0) R1 R2 s p1 hm hr
      have hI2 := hI.step hi
      obtain ⟨o2, ho2, hr2⟩ := hr2
      rw [ho] at ho2; injection ho2 with ho2; subst ho2
      unfold wpOp
      rw [ho]
      simp only
      have hlen : (R1 ++ R2).length ≤ fuel := by simp at hf ⊢; omega
      obtain ⟨c, _, h2⟩ := h.ex
      rcases hr2 with ⟨hw, v, H', hs, hr2⟩ | ⟨hw, hr2⟩
      · rw [wanted1_rep h2 hw, if_pos rfl]
        exact .inl (told_step (dsts_spec hd ho) h hs.step (fun a' w' h' => ih _ _ _ a' w' hlen hI2 h' hr2))
      · rw [wanted1_rep h2 hw, if_neg (by simp)]
        exact ih _ _ _ _ _ hlen hI2 (told_skip (dsts_spec hd ho) h) hr2
end
theorem Conc.drew {E : Ent} {c : Cx} {H : AHeap} {w w' : World} (hC : Conc E c H w) (hh : w'.heap = w.heap) (h1 : w'.os = w.os) (h2 : w'.tape = w.tape) (h3 : w'.output = w.output) : Conc E c H w' ∧ Later c H w c H w' :=
  hC.grew ⟨h1, h2, h3, by rw [hh]; exact Nat.le_refl _, fun b _ => by rw [hh]⟩ c.A (fun _ _ h => h) (fun _ _ h => .inl h)
theorem Told.drew {n : Nat} {E : Ent} {s : ASt} {a : Act} {w : World} (h : Told n E s a w) : Told n E s a { w with drawn := w.drawn + 1 } := by
  obtain ⟨⟨c, h1, h2⟩, h3, h4⟩ := h
  obtain ⟨g1, g2⟩ := h1.drew (w' := { w with drawn := w.drawn + 1 }) rfl rfl rfl rfl
  exact ⟨⟨c, g1, fun t => (h2 t).later g2⟩, h3, h4⟩
inductive AEx where
  | normal
  | exit (id : Nat)
  | ret
  deriving DecidableEq
def lift (n : Nat) (E : Ent) (Q : AEx → ASt → Prop) : Exit → Act → World → Prop
  | .normal, a, w => ∃ s, Told n E s a w ∧ Q .normal s
  | .exit id, a, w => ∃ s, Told n E s a w ∧ Q (.exit id) s
  | .ret, a, w => ∃ s, Told n E s a w ∧ Q .ret s
  | _, _, _ => False
/-- what a piece of code comes to -/
def awp (P : Program) (n : Nat) (c : Code) (Q : AEx → ASt → Prop) (s : ASt) : Prop := ∀ E a w, Told n E s a w → c.wp P (lift n E Q) a w
section
variable {P : Program} {n : Nat} {Q : AEx → ASt → Prop} {s : ASt}
theorem awp_skip (h : Q .normal s) : awp P n .skip Q s := fun E a w ht => wp_skip ⟨s, ht, h⟩
theorem awp_ret (h : Q .ret s) : awp P n .ret Q s := fun E a w ht => wp_ret ⟨s, ht, h⟩
theorem awp_exit {id : Nat} (h : Q (.exit id) s) : awp P n (.exit id) Q s := fun E a w ht => wp_exit ⟨s, ht, h⟩
def thenA (K : ASt → Prop) (Q : AEx → ASt → Prop) : AEx → ASt → Prop
  | .normal, s => K s
  | e, s => Q e s
theorem awp_seq {x y : Code} (h : awp P n x (thenA (awp P n y Q) Q) s) : awp P n (.seq x y) Q s := fun E a w ht =>
  wp_seq (Code.wp_mono (fun e a w hq => by
    cases e <;> first | exact hq.elim | skip
    · obtain ⟨s', h1, h2⟩ := hq; exact h2 E a w h1
    · exact hq
    · exact hq) (h E a w ht))
def inBlk (id : Nat) (Q : AEx → ASt → Prop) : AEx → ASt → Prop
  | .exit id', s => if id' = id then Q .normal s else Q (.exit id') s
  | e, s => Q e s
theorem awp_block {id : Nat} {c : Code} (h : awp P n c (inBlk id Q) s) : awp P n (.block id c) Q s := fun E a w ht =>
  wp_block (Code.wp_mono (fun e a w hq => by
    cases e <;> first | exact hq.elim | skip
    · exact hq
    · rename_i id'
      obtain ⟨s', h1, h2⟩ := hq
      have h3 : if id' = id then Q .normal s' else Q (.exit id') s' := h2
      show if id' = id then _ else _
      split
      · rename_i e; rw [if_pos e] at h3; exact ⟨s', h1, h3⟩
      · rename_i e; rw [if_neg e] at h3; exact ⟨s', h1, h3⟩
    · exact hq) (h E a w ht))
theorem awp_cond {c : Operand} {x y : Code} {b : Bool} (hc : ev s.sl c = .c (.t (.v (.bool b)))) (h1 : b = true → awp P n x Q s) (h2 : b = false → awp P n y Q s) : awp P n (.cond c x y) Q s := fun E a w ht => by
  obtain ⟨⟨cx, g1, g2⟩, g3, g4⟩ := ht
  have hv := ev_rep g2 c
  rw [hc] at hv
  have e : a.eval c = .bool b := by
    generalize a.eval c = q at hv
    cases hv with
    | c hv => cases hv with
      | t hv => cases hv; rfl
  refine wp_cond_split e (fun hb => h1 hb E a w ⟨⟨cx, g1, g2⟩, g3, g4⟩) (fun hb => h2 hb E a w ⟨⟨cx, g1, g2⟩, g3, g4⟩)
theorem awp_any2 {c : Operand} {x y : Code} (hc : ev s.sl c = .c .ab) (h1 : awp P n x Q s) (h2 : awp P n y Q s) : awp P n (.cond c x y) Q s := fun E a w ht => by
  obtain ⟨⟨cx, g1, g2⟩, g3, g4⟩ := ht
  have hv := ev_rep g2 c
  rw [hc] at hv
  have e : ∃ b, a.eval c = .bool b := by
    generalize a.eval c = q at hv
    cases hv with
    | c hv => cases hv with
      | ab b => exact ⟨b, rfl⟩
  obtain ⟨b, e⟩ := e
  exact wp_cond_split e (fun hb => h1 E a w ⟨⟨cx, g1, g2⟩, g3, g4⟩) (fun hb => h2 E a w ⟨⟨cx, g1, g2⟩, g3, g4⟩)
theorem exists_min {p : Nat → Prop} (h : ∃ n, p n) : ∃ n, p n ∧ ∀ m, p m → n ≤ m := by
  obtain ⟨n, hn⟩ := h
  induction n using Nat.strongRecOn with
  | _ n ih =>
    by_cases hx : ∃ m, m < n ∧ p m
    · obtain ⟨m, h1, h2⟩ := hx; exact ih m h1 h2
    · exact ⟨n, hn, fun m hm => Nat.le_of_not_lt (fun hlt => hx ⟨m, hlt, hm⟩)⟩
open Classical in
noncomputable def leastOf (p : Nat → Prop) : Nat := if h : ∃ n, p n then Classical.choose (exists_min h) else 0
theorem leastOf_spec {p : Nat → Prop} (h : ∃ n, p n) : p (leastOf p) ∧ ∀ m, p m → leastOf p ≤ m := by
  unfold leastOf
  rw [dif_pos h]
  exact Classical.choose_spec (exists_min h)
theorem awp_loop {c : Code} (I : ASt → Prop) (μ : ASt → Nat) (h0 : I s) (hr : ∀ s, I s → awp P n c (thenA (fun s' => I s' ∧ μ s' < μ s) Q) s) : awp P n (.loop c) Q s := fun E a w ht => by
  let p : Act → World → Nat → Prop := fun a w m => ∃ s, Told n E s a w ∧ I s ∧ μ s = m
  refine wp_loop (fun a w => ∃ m, p a w m) (fun a w => leastOf (p a w)) ⟨μ s, s, ht, h0, rfl⟩ (fun a w hI => ?_)
  obtain ⟨⟨s1, g1, g2, g3⟩, _⟩ := leastOf_spec hI
  refine Code.wp_mono (fun e a' w' hq => ?_) (hr s1 g2 E a w g1)
  cases e <;> first | exact hq.elim | skip
  · obtain ⟨s2, k1, k2, k3⟩ := hq
    refine ⟨⟨μ s2, s2, k1, k2, rfl⟩, ?_⟩
    have h2 := (leastOf_spec (p := p a' w') ⟨μ s2, s2, k1, k2, rfl⟩).2 (μ s2) ⟨s2, k1, k2, rfl⟩
    rw [← g3]
    exact Nat.lt_of_le_of_lt h2 k3
  · exact hq
  · exact hq
/-- a state told with less -/
def Weak (s s' : ASt) : Prop := ∀ n E a w, Told n E s a w → Told n E s' a w
theorem awp_weak {c : Code} {s' : ASt} (hw : Weak s s') (h : awp P n c Q s') : awp P n c Q s := fun E a w ht => h E a w (hw n E a w ht)
theorem awp_mono {c : Code} {Q' : AEx → ASt → Prop} (h : awp P n c Q s) (hq : ∀ e s, Q e s → Q' e s) : awp P n c Q' s := fun E a w ht =>
  Code.wp_mono (fun e a w h => by
    cases e <;> first | exact h.elim | skip
    all_goals (obtain ⟨s', h1, h2⟩ := h; exact ⟨s', h1, hq _ _ h2⟩)) (h E a w ht)
theorem awp_region {id : Nat} {ops : List Oper} (kinds : List (Nat × Kd)) (ho : kinds.map (·.1) = List.range ops.length) (hd : dstsOk n ops.toArray = true) (h : RunL P ops.toArray kinds s (fun s => Q .normal s)) : awp P n (.region id ops.toArray false) Q s := fun E a w ht =>
  wp_region (by
    have := run_text (P := P) (ops := ops.toArray) (Q := lift n E Q) hd (E := E) (K := fun s => Q .normal s) (fun s a w h1 h2 => ⟨s, h1, h2⟩) kinds s a w ht h
    rw [ho] at this
    simpa using this)
theorem awp_region_any {id : Nat} {ops : List Oper} (order : List (Nat × Kd)) (hm : P.follows .mixedOrders = true) (hl : order.length = ops.length) (hc : calm ops.toArray order = true) (hd : dstsOk n ops.toArray = true) (h : RunL P ops.toArray order s (fun s => Q .normal s)) : awp P n (.region id ops.toArray true) Q s := fun E a w ht =>
  wp_region_any hm (by
    have hpost : ∀ s a w, Told n E s a w → (fun s => ∃ s', Same s' s ∧ Q .normal s') s → lift n E Q .normal a w := fun s a w h1 ⟨s', h2, h3⟩ => ⟨s', h1.same ⟨fun t => (h2.1 t).symm, h2.2.symm⟩, h3⟩
    have hmono : ∀ (L : List (Nat × Kd)) (s : ASt) (K K' : ASt → Prop), (∀ s, K s → K' s) → RunL P ops.toArray L s K → RunL P ops.toArray L s K' := by
      intro L
      induction L with
      | nil => intro s K K' hk h; exact hk s h
      | cons x r ih =>
        obtain ⟨i, k⟩ := x
        intro s K K' hk h
        obtain ⟨o, ho, h⟩ := h
        refine ⟨o, ho, ?_⟩
        rcases h with ⟨hw, v, H', hs, h⟩ | ⟨hw, h⟩
        · exact .inl ⟨hw, v, H', hs, ih _ _ _ hk h⟩
        · exact .inr ⟨hw, ih _ _ _ hk h⟩
    unfold calm at hc
    rw [forceN_eq] at hc
    simp only [Bool.and_eq_true, List.all_eq_true] at hc
    obtain ⟨⟨c1, c2⟩, c3⟩ := hc
    refine run_any (K := fun s => ∃ s', Same s' s ∧ Q .normal s') hd (fun s s' h1 ⟨s2, h2, h3⟩ => ⟨s2, ⟨fun t => (h2.1 t).trans (h1.1 t), h2.2.trans h1.2⟩, h3⟩) hpost _ _ order s a _ (by simp [hl]) ⟨by simp, fun j hj => ?_, c1, c3, fun j hj => ?_⟩ ht.drew (hmono order s _ _ (fun s h => ⟨s, Same.refl s, h⟩) h)
    · constructor
      · intro _
        have := c2 j (by simpa using hj)
        rw [List.any_eq_true] at this
        obtain ⟨⟨y, k⟩, hy, e⟩ := this
        have e' : y = j := by simpa using e
        subst e'
        exact ⟨k, hy⟩
      · intro _; simp at hj; simp [hj]
    · exfalso
      by_cases hlt : j < ops.length
      · simp [hlt] at hj
      · simp [hlt] at hj)
end
end Go.Proofs.Ytiimkhnngpfnbaa.Fx
/- The single operations, on what the slots and variables hold: those that change nothing. No program in sight. -/
namespace Go.Proofs.Ytiimkhnngpfnbaa.Fx
open Go.RowKit
set_option linter.unusedVariables false
set_option linter.unusedSimpArgs false
/-- a type's size in cells, and whether its values are made of parts -/
def shapeB (P : Program) (ty : TypeId) (agg : Bool) (n : Nat) : Bool :=
  (match P.underlying ty with | some (.struct _) | some (.array _ _) => agg | some _ => !agg | none => false) && (match P.info? ty with | some i => i.size == n | none => false)
class Shp (P : Program) (ty : TypeId) (agg : outParam Bool) (n : outParam Nat) : Prop where
  h : shapeB P ty agg n = true
def sliB (P : Program) (ty e : TypeId) (n bytes : Nat) : Bool :=
  (match P.underlying ty with | some (.slice e') => e' == e | _ => false) && (match P.info? e with | some i => i.size == n && i.bytes == bytes && (match i.zero with | some z => z.cells.size == n | none => false) | none => false) && decide (0 < n)
class Sli (P : Program) (ty : TypeId) (e : outParam TypeId) (n : outParam Nat) (bytes : outParam Nat) : Prop where
  h : sliB P ty e n bytes = true
def fldB (P : Program) (ty : TypeId) (f : Nat) (off n : Nat) (agg : Bool) : Bool :=
  match P.underlying ty with
  | some (.struct fs) => match fs[f]? with | some d => d.offset == off && shapeB P d.type agg n && decide (0 < n) | none => false
  | _ => false
class Fld (P : Program) (ty : TypeId) (f : Nat) (off : outParam Nat) (n : outParam Nat) (agg : outParam Bool) : Prop where
  h : fldB P ty f off n agg = true
def arrB (P : Program) (ty : TypeId) (len n : Nat) (agg : Bool) : Bool :=
  match P.underlying ty with
  | some (.array l e) => l == len && shapeB P e agg n && decide (0 < n) && decide (1 < len)
  | _ => false
class Arr (P : Program) (ty : TypeId) (len : outParam Nat) (n : outParam Nat) (agg : outParam Bool) : Prop where
  h : arrB P ty len n agg = true
class Zro (P : Program) (ty : TypeId) (l : outParam (List Value)) : Prop where
  h : (P.info? ty).map (fun i => i.zero.map (fun z => z.cells.toList)) = some (some l)
  one : l.all (·.oneCell') = true
section
variable {P : Program}
theorem Shp.isAgg {ty : TypeId} {agg : Bool} {n : Nat} (h : shapeB P ty agg n = true) (w : World) : (isAgg ty).run P w = .ok agg w := by
  unfold shapeB at h
  cases hu : P.underlying ty with
  | none => rw [hu] at h; simp at h
  | some d =>
    rw [hu] at h
    cases d <;> simp at h <;> simp [Go.isAgg, run_underlying hu, h.1]
theorem Shp.size {ty : TypeId} {agg : Bool} {n : Nat} (h : shapeB P ty agg n = true) (w : World) : (sizeOf ty).run P w = .ok n w := by
  unfold shapeB at h
  cases hi : P.info? ty with
  | none => rw [hi] at h; simp at h
  | some i =>
    rw [hi] at h
    simp at h
    simp [Go.sizeOf, typeInfo, hi, h.2]
theorem step_val {o : Oper} {ρ : Operand → AV} {H : AHeap} {v : AV} (h : ∀ (E : Ent) (c : Cx) (w : World) (a : Act), Conc E c H w → (∀ x ∈ o.op.operands, VRep c H w (a.eval x) (ρ x)) → ∃ val, (execOp a.eval o).run P w = .ok (.value val) w ∧ VRep c H w val v) : Step P o ρ H H v := by
  intro E c a w K Q hC hx hK
  obtain ⟨val, h1, h2⟩ := h E c w a hC hx
  unfold Oper.wp
  rw [h1]
  exact hK val c w hC (Later.refl _ _ _) h2
theorem stepP_val {o : Oper} {ρ : Operand → AV} {H : AHeap} {v : AV} (h : ∀ (H : AHeap) (E : Ent) (c : Cx) (w : World) (a : Act), Conc E c H w → (∀ x ∈ o.op.operands, VRep c H w (a.eval x) (ρ x)) → ∃ val, (execOp a.eval o).run P w = .ok (.value val) w ∧ VRep c H w val v) : StepK P .p o ρ H H v :=
  ⟨rfl, fun H2 => step_val (h H2)⟩
variable {dst : Option Tmp} {ty0 : TypeId} {pos : String} {af : Array Edge} {g : Option (Nat × Bool)} {ρ : Operand → AV} {H : AHeap}
theorem step_move (x : Operand) {v : AV} (hx : ρ x = v) : StepK P .p ⟨dst, .move x, ty0, pos, af, g⟩ ρ H H v :=
  stepP_val fun H E c w a _ h => ⟨a.eval x, rfl, hx ▸ h x (by simp [Op.operands])⟩
theorem step_assign (x : Operand) {v : AV} (hx : ρ x = v) : StepK P .p ⟨dst, .assign x, ty0, pos, af, g⟩ ρ H H v :=
  stepP_val fun H E c w a _ h => ⟨a.eval x, rfl, hx ▸ h x (by simp [Op.operands])⟩
/-- what is known to the last cell -/
def exC : CV → Option Value
  | .t (.v x) => some x
  | _ => none
def exL : List CV → Option (List Value)
  | [] => some []
  | x :: t => match exC x, exL t with | some v, some l => some (v :: l) | _, _ => none
def exAV : AV → Option Value
  | .c x => exC x
  | .agg l => (exL l).map fun l => .agg l.toArray
  | _ => none
theorem exC_eq {c : Cx} {H : AHeap} {w : World} {v y : Value} {x : CV} (h : CRep c H w v x) (he : exC x = some y) : v = y := by
  cases h with
  | t h => cases h with
    | v x _ => simp only [exC, Option.some.injEq] at he; exact he
    | _ => simp [exC] at he
  | _ => simp [exC] at he
theorem exL_eq {c : Cx} {H : AHeap} {w : World} : ∀ (l : List CV) (cs ys : List Value), cs.length = l.length → (∀ i, i < l.length → CRep c H w (cs.getD i undef) (l.getD i .dead)) → exL l = some ys → cs = ys := by
  intro l
  induction l with
  | nil => intro cs ys h1 _ h; simp [exL] at h; rw [h]; exact List.length_eq_zero_iff.1 h1
  | cons x t ih =>
    intro cs ys h1 h2 h
    cases cs with
    | nil => simp at h1
    | cons u cs =>
      unfold exL at h
      cases hx : exC x with
      | none => rw [hx] at h; cases h
      | some v =>
        cases hl : exL t with
        | none => rw [hx, hl] at h; cases h
        | some l =>
          rw [hx, hl] at h
          simp at h
          rw [← h]
          have h0 := h2 0 (by simp)
          have e0 : u = v := exC_eq (c := c) (H := H) (w := w) (x := x) (by simpa using h0) hx
          rw [e0, ih cs l (by simpa using h1) (fun i hi => by have := h2 (i + 1) (by simpa using hi); simpa using this) hl]
theorem exAV_eq {c : Cx} {H : AHeap} {w : World} {v y : Value} {x : AV} (h : VRep c H w v x) (he : exAV x = some y) : v = y := by
  cases h with
  | c h => exact exC_eq h he
  | agg cs l h1 h2 =>
    simp only [exAV] at he
    cases hl : exL l with
    | none => rw [hl] at he; cases he
    | some ys =>
      rw [hl] at he
      injection he with he
      have e := exL_eq l cs ys h1 h2 hl
      subst e
      exact he
  | _ => simp [exAV] at he
/-- an operation on what is known to the last cell -/
theorem step_exact {o : Oper} (hs : ∀ cs b, o.op ≠ .select cs b) (y : Value) (hx : ∀ x ∈ o.op.operands, (exAV (ρ x)).isSome = true) (hrun : ∀ w, (execOp (fun x => (exAV (ρ x)).getD undef) o).run P w = .ok (.value y) w) : StepK P .p o ρ H H (constAV y) :=
  stepP_val fun H E c w a _ h => ⟨y, by
    rw [execOp_congr (ρ := a.eval) (ρ' := fun x => (exAV (ρ x)).getD undef) o hs (fun x hm => by
      obtain ⟨z, hz⟩ := Option.isSome_iff_exists.1 (hx x hm)
      simp only [hz, Option.getD_some]
      exact exAV_eq (h x hm) hz)]
    exact hrun w, constAV_rep c H w y⟩
theorem add_plain (b i n : Nat) : (⟨b, i, none⟩ : Addr).add n = ⟨b, i + n, none⟩ := by unfold Addr.add; split <;> simp_all
theorem run_fieldAt {sty : TypeId} {f off n : Nat} {agg : Bool} (hf : fldB P sty f off n agg = true) (w : World) (b i : Nat) : (Instr.fieldAt sty (.pointer (some ⟨b, i, none⟩)) f).run P w = .ok (.pointer (some ⟨b, i + off, none⟩)) w := by
  unfold fldB at hf
  split at hf
  · rename_i fs hu
    split at hf
    · rename_i d hd
      simp only [Bool.and_eq_true, beq_iff_eq, decide_eq_true_eq] at hf
      obtain ⟨⟨h1, h2⟩, h3⟩ := hf
      have hn : n ≠ 0 := by omega
      simp [Instr.fieldAt, run_underlying hu, hd, Instr.sureAddr, fieldPlace, Shp.size h2, hn, h1, add_plain]
    · cases hf
  · cases hf
theorem cptr {c : Cx} {H : AHeap} {w : World} {v : Value} {k i : Nat} (h : VRep c H w v (.c (.ptr k i))) : ∃ b ty cells, v = .pointer (some ⟨b, i, none⟩) ∧ hget H k = some (.var ty cells) ∧ c.m k = .pointer (some ⟨b, 0, none⟩) := by
  cases h with
  | c h => cases h with
    | ptr ho hm => exact ⟨_, _, _, rfl, ho, hm⟩
theorem step_field_ptr (sty : TypeId) (x : Operand) (f : Nat) {off n : Nat} {agg : Bool} [hF : Fld P sty f off n agg] {k i : Nat} (hx : ρ x = .c (.ptr k i)) : StepK P .p ⟨dst, .fieldAddr sty x f, ty0, pos, af, g⟩ ρ H H (.c (.ptr k (i + off))) :=
  stepP_val fun H E c w a _ h => by
    have hv := h x (by simp [Op.operands])
    rw [hx] at hv
    obtain ⟨b, ty, cells, e, ho, hm⟩ := cptr hv
    refine ⟨_, ?_, .c (.ptr ho hm)⟩
    simp only [execOp, e, Sem.run_bind, run_fieldAt hF.h, Result.andThen_ok, Sem.run_pure]
theorem cel {c : Cx} {H : AHeap} {w : World} {v : Value} {row : List T} {j : Nat} (h : VRep c H w v (.c (.el row j))) : ∃ b off, ∃ vs : Nat → Value, v = .pointer (some ⟨b, off + j, none⟩) ∧ (∀ j, j < row.length → c.A b (off + j) ∧ w.cell? ⟨b, off + j, none⟩ = some (vs j)) ∧ ∀ j, j < row.length → TRep c.A w (vs j) (row.getD j default) := by
  cases h with
  | c h => cases h with
    | el vs hc hr => exact ⟨_, _, vs, rfl, hc, hr⟩
theorem step_field_el (sty : TypeId) (x : Operand) (f : Nat) {off n : Nat} {agg : Bool} [hF : Fld P sty f off n agg] {row : List T} {j : Nat} (hx : ρ x = .c (.el row j)) : StepK P .p ⟨dst, .fieldAddr sty x f, ty0, pos, af, g⟩ ρ H H (.c (.el row (j + off))) :=
  stepP_val fun H E c w a _ h => by
    have hv := h x (by simp [Op.operands])
    rw [hx] at hv
    obtain ⟨b, o, vs, e, hc, hr⟩ := cel hv
    refine ⟨_, ?_, .c (.el (off := o) vs hc hr)⟩
    simp only [execOp, e, Sem.run_bind, run_fieldAt hF.h, Result.andThen_ok, Sem.run_pure, Nat.add_assoc]
theorem cp {c : Cx} {H : AHeap} {w : World} {v : Value} {row : List T} (h : VRep c H w v (.c (.t (.p row)))) : ∃ b off, ∃ vs : Nat → Value, v = .pointer (some ⟨b, off, none⟩) ∧ (∀ j, j < row.length → c.A b (off + j) ∧ w.cell? ⟨b, off + j, none⟩ = some (vs j)) ∧ ∀ j, j < row.length → TRep c.A w (vs j) (row.getD j default) := by
  cases h with
  | c h => cases h with
    | t h => cases h with
      | p b off row vs hc hr => exact ⟨_, _, vs, rfl, hc, hr⟩
theorem step_field_p (sty : TypeId) (x : Operand) (f : Nat) {off n : Nat} {agg : Bool} [hF : Fld P sty f off n agg] {row : List T} (hx : ρ x = .c (.t (.p row))) : StepK P .p ⟨dst, .fieldAddr sty x f, ty0, pos, af, g⟩ ρ H H (.c (.el row off)) :=
  stepP_val fun H E c w a _ h => by
    have hv := h x (by simp [Op.operands])
    rw [hx] at hv
    obtain ⟨b, o, vs, e, hc, hr⟩ := cp hv
    refine ⟨_, ?_, .c (.el (off := o) vs hc hr)⟩
    simp only [execOp, e, Sem.run_bind, run_fieldAt hF.h, Result.andThen_ok, Sem.run_pure]
/-- an element's address: of a slice that nobody changes -/
theorem step_index_t (sty : TypeId) (x ix : Operand) {e : TypeId} {n bytes : Nat} [hS : Sli P sty e n bytes] {rows : List (List T)} {kd : IntKind} {i : Int} (hx : ρ x = .c (.t (.s rows))) (hi : ρ ix = .c (.t (.v (.int kd i)))) (h0 : 0 ≤ i) (h1 : i < rows.length) (hn : (rows.getD i.toNat []).length = n) :
    StepK P .p ⟨dst, .indexAddr sty x ix, ty0, pos, af, g⟩ ρ H H (.c (.el (rows.getD i.toNat []) 0)) :=
  stepP_val fun H E c w a _ h => by
    have hv := h x (by simp [Op.operands])
    have hw := h ix (by simp [Op.operands])
    rw [hx] at hv
    rw [hi] at hw
    have ew := exAV_eq hw (y := .int kd i) rfl
    have hb := hS.h
    unfold sliB at hb
    cases hu : P.underlying sty with
    | none => rw [hu] at hb; simp at hb
    | some d =>
      rw [hu] at hb
      cases d <;> simp at hb
      rename_i e'
      obtain ⟨⟨rfl, hb2⟩, hb3⟩ := hb
      cases hinf : P.info? e' with
      | none => rw [hinf] at hb2; cases hb2
      | some inf =>
        rw [hinf] at hb2
        simp at hb2
        have hsz : inf.size = n := hb2.1.1
        generalize hval : a.eval x = val at hv
        cases hv with
        | c hv => cases hv with
          | t hv =>
            cases hv with
            | e _ _ => simp at h1; omega
            | s b off cap n' rows vs g1 g2 gn gc gr =>
              have hlt : i.toNat < rows.length := by omega
              have hnn : n' = n := by rw [← gn _ hlt]; exact hn
              subst hnn
              refine ⟨.pointer (some ⟨b, off + i.toNat * n', none⟩), ?_, .c ?_⟩
              · simp only [execOp, hval, ew]
                simp [Instr.indexAt, asIntOf, run_underlying hu, h0, h1, Go.sizeOf, typeInfo, hinf, hsz, add_plain]
              · have := CRep.el (c := c) (H := H) (w := w) (row := rows.getD i.toNat []) (j := 0) (b := b) (off := off + i.toNat * n') (vs i.toNat)
                  (fun j hj => gc _ j hlt (by rw [gn _ hlt] at hj; exact hj)) (fun j hj => gr _ j hlt (by rw [gn _ hlt] at hj; exact hj))
                simpa using this
theorem step_index_arr_el (sty : TypeId) (x ix : Operand) {len n : Nat} (hA : ∃ e, P.underlying sty = some (.array len e) ∧ ∃ i, P.info? e = some i ∧ i.size = n) {row : List T} {j : Nat} {kd : IntKind} {i : Int} (hx : ρ x = .c (.el row j)) (hi : ρ ix = .c (.t (.v (.int kd i)))) (h0 : 0 ≤ i) (h1 : i < len) :
    StepK P .p ⟨dst, .indexAddr sty x ix, ty0, pos, af, g⟩ ρ H H (.c (.el row (j + i.toNat * n))) :=
  stepP_val fun H E c w a _ h => by
    obtain ⟨e, hu, inf, hinf, hsz⟩ := hA
    have hv := h x (by simp [Op.operands])
    have hw := h ix (by simp [Op.operands])
    rw [hx] at hv
    rw [hi] at hw
    have ew := exAV_eq hw (y := .int kd i) rfl
    obtain ⟨b, o, vs, ev', hc, hr⟩ := cel hv
    refine ⟨.pointer (some ⟨b, o + j + i.toNat * n, none⟩), ?_, .c ?_⟩
    · simp only [execOp, ev', ew]
      simp [Instr.indexAt, asIntOf, run_underlying hu, Instr.sureAddr, h0, h1, Go.sizeOf, typeInfo, hinf, hsz, add_plain]
    · have := CRep.el (c := c) (H := H) (w := w) (row := row) (j := j + i.toNat * n) (b := b) (off := o) vs hc hr
      rw [Nat.add_assoc]; exact this
theorem step_index_arr_ptr (sty : TypeId) (x ix : Operand) {len n : Nat} (hA : ∃ e, P.underlying sty = some (.array len e) ∧ ∃ i, P.info? e = some i ∧ i.size = n) {k j : Nat} {kd : IntKind} {i : Int} (hx : ρ x = .c (.ptr k j)) (hi : ρ ix = .c (.t (.v (.int kd i)))) (h0 : 0 ≤ i) (h1 : i < len) :
    StepK P .p ⟨dst, .indexAddr sty x ix, ty0, pos, af, g⟩ ρ H H (.c (.ptr k (j + i.toNat * n))) :=
  stepP_val fun H E c w a _ h => by
    obtain ⟨e, hu, inf, hinf, hsz⟩ := hA
    have hv := h x (by simp [Op.operands])
    have hw := h ix (by simp [Op.operands])
    rw [hx] at hv
    rw [hi] at hw
    have ew := exAV_eq hw (y := .int kd i) rfl
    obtain ⟨b, ty, cells, ev', ho, hm⟩ := cptr hv
    refine ⟨.pointer (some ⟨b, j + i.toNat * n, none⟩), ?_, .c (.ptr ho hm)⟩
    simp only [execOp, ev', ew]
    simp [Instr.indexAt, asIntOf, run_underlying hu, Instr.sureAddr, h0, h1, Go.sizeOf, typeInfo, hinf, hsz, add_plain]
theorem step_len_t (sty : TypeId) (x : Operand) {e : TypeId} {n bytes : Nat} [hS : Sli P sty e n bytes] {rows : List (List T)} (hx : ρ x = .c (.t (.s rows))) :
    StepK P .p ⟨dst, .call { callee := .builtin .len, args := #[x], argTypes := #[sty] }, ty0, pos, af, g⟩ ρ H H (.c (.t (.v (.int .i64 rows.length)))) :=
  stepP_val fun H E c w a _ h => by
    have hv := h x (by simp [Op.operands, Call.operands])
    rw [hx] at hv
    have hb := hS.h
    unfold sliB at hb
    cases hu : P.underlying sty with
    | none => rw [hu] at hb; simp at hb
    | some d =>
      rw [hu] at hb
      cases d <;> simp at hb
      generalize hval : a.eval x = val at hv
      cases hv with
      | c hv => cases hv with
        | t hv =>
          cases hv with
          | e ad cap => exact ⟨.int .i64 0, by simp [execOp, resolve, invoke, builtin, Builtin.len_, run_underlying hu, hval, goInt], .c (.t (.v _ rfl))⟩
          | s b off cap n' rows vs g1 g2 gn gc gr => exact ⟨.int .i64 rows.length, by simp [execOp, resolve, invoke, builtin, Builtin.len_, run_underlying hu, hval, goInt], .c (.t (.v _ rfl))⟩
/-- how a value of a type is taken out of cells -/
def takeAV (agg : Bool) (n : Nat) (l : List CV) (i : Nat) : AV := if agg then .agg ((l.drop i).take n) else .c (l.getD i .dead)
theorem run_loadVar_cells {ty : TypeId} {agg : Bool} {n : Nat} (hs : shapeB P ty agg n = true) (hn : agg = false → n = 1) (w : World) (b i : Nat) (cs : List Value) (hl : cs.length = n) (hc : ∀ j, j < n → w.cell? ⟨b, i + j, none⟩ = some (cs.getD j undef)) :
    (loadVar ty ⟨b, i, none⟩).run P w = .ok (if agg then .agg cs.toArray else cs.getD 0 undef) w := by
  unfold loadVar
  simp only [Sem.run_bind, Shp.isAgg hs, Result.andThen_ok]
  cases agg with
  | true =>
    simp only [if_true, Sem.run_bind, Shp.size hs, Result.andThen_ok]
    rw [← hl, run_loadCells_list w _ cs (fun j v hv => by
      have hj : j < cs.length := by
        rcases Nat.lt_or_ge j cs.length with h | h
        · exact h
        · rw [List.getElem?_eq_none h] at hv; cases hv
      rw [add_plain, hc j (by omega), List.getD_eq_getElem?_getD, hv]; rfl)]
    simp
  | false =>
    have h1 := hn rfl
    subst h1
    have h0 := hc 0 (by omega)
    simp at h0
    simp [load, Sem.run, h0]
theorem take_rep {c : Cx} {H : AHeap} {w : World} {l : List CV} {agg : Bool} {n i : Nat} {cs : List Value} (hl : cs.length = n) (hn : agg = false → n = 1) (hi : i + n ≤ l.length) (h : ∀ j, j < n → CRep c H w (cs.getD j undef) (l.getD (i + j) .dead)) :
    VRep c H w (if agg then .agg cs.toArray else cs.getD 0 undef) (takeAV agg n l i) := by
  unfold takeAV
  cases agg with
  | true =>
    simp only [if_true]
    refine .agg _ _ (by simp; omega) (fun j hj => ?_)
    have hj' : j < n := by simp at hj; omega
    have e : ((l.drop i).take n).getD j .dead = l.getD (i + j) .dead := by
      simp [List.getD_eq_getElem?_getD, List.getElem?_take, hj', List.getElem?_drop]
    rw [e]
    exact h j hj'
  | false =>
    have h1 := hn rfl
    subst h1
    have := h 0 (by omega)
    exact .c (by simpa using this)
/-- what a variable holds -/
theorem step_load_ptr (ty : TypeId) (x : Operand) {agg : Bool} {n : Nat} [hS : Shp P ty agg n] {k i : Nat} {vt : TypeId} {cells : List CV} (hx : ρ x = .c (.ptr k i)) (ho : hget H k = some (.var vt cells)) (hn : agg = false → n = 1) (hi : i + n ≤ cells.length) :
    StepK P .r ⟨dst, .load ty x, ty0, pos, af, g⟩ ρ H H (takeAV agg n cells i) :=
  ⟨rfl, fun H2 hsub => step_val (H := H2) fun E c w a hC h => by
    have ho := hsub _ _ ho
    have hv := h x (by simp [Op.operands])
    rw [hx] at hv
    obtain ⟨b, ty', cells', e, ho', hm⟩ := cptr hv
    obtain ⟨b', cs, g1, g2, g3, g4, g5⟩ := hC.obj k _ ho
    have hbb : b' = b := by rw [hm] at g1; injection g1 with g1; injection g1 with g1; injection g1 with g1; exact g1.symm
    subst hbb
    have hcell : ∀ j, j < n → w.cell? ⟨b', i + j, none⟩ = some (((List.range n).map fun j => cs.getD (i + j) undef).getD j undef) := fun j hj => by
      have hlt : i + j < cs.size := by omega
      simp [World.cell?, g2, hlt, List.getD_eq_getElem?_getD, List.getElem?_map, List.getElem?_range hj]
    have hrun := run_loadVar_cells hS.h hn w b' i ((List.range n).map fun j => cs.getD (i + j) undef) (by simp) hcell
    refine ⟨_, ?_, take_rep (l := cells) (i := i) (cs := (List.range n).map fun j => cs.getD (i + j) undef) (by simp) hn hi (fun j hj => ?_)⟩
    · simp only [execOp, e, Instr.loadAt, Instr.sureAddr, Sem.run_bind, Sem.run_pure, Result.andThen_ok, hrun]
    · have := g4 (i + j) (by omega)
      simpa [List.getD_eq_getElem?_getD, List.getElem?_map, List.getElem?_range hj] using this⟩
theorem step_load_el (ty : TypeId) (x : Operand) {agg : Bool} {n : Nat} [hS : Shp P ty agg n] {row : List T} {i : Nat} (hx : ρ x = .c (.el row i)) (hn : agg = false → n = 1) (hi : i + n ≤ row.length) :
    StepK P .p ⟨dst, .load ty x, ty0, pos, af, g⟩ ρ H H (takeAV agg n (row.map .t) i) :=
  stepP_val fun H E c w a hC h => by
    have hv := h x (by simp [Op.operands])
    rw [hx] at hv
    obtain ⟨b, off, vs, e, hc, hr⟩ := cel hv
    have hcell : ∀ j, j < n → w.cell? ⟨b, off + i + j, none⟩ = some (((List.range n).map fun j => vs (i + j)).getD j undef) := fun j hj => by
      have := (hc (i + j) (by omega)).2
      rw [Nat.add_assoc, this]
      simp [List.getD_eq_getElem?_getD, List.getElem?_map, List.getElem?_range hj]
    have hrun := run_loadVar_cells hS.h hn w b (off + i) ((List.range n).map fun j => vs (i + j)) (by simp) hcell
    refine ⟨_, ?_, take_rep (l := row.map .t) (i := i) (cs := (List.range n).map fun j => vs (i + j)) (by simp) hn (by simpa using hi) (fun j hj => ?_)⟩
    · simp only [execOp, e, Instr.loadAt, Instr.sureAddr, Sem.run_bind, Sem.run_pure, Result.andThen_ok, hrun]
    · have h1 := hr (i + j) (by omega)
      have hlt : i + j < row.length := by omega
      have e1 : (row.map CV.t).getD (i + j) .dead = .t (row.getD (i + j) default) := by
        simp [List.getD_eq_getElem?_getD, List.getElem?_map, List.getElem?_eq_getElem hlt]
      rw [e1]
      have e2 : ((List.range n).map fun j => vs (i + j)).getD j undef = vs (i + j) := by simp [List.getD_eq_getElem?_getD, List.getElem?_map, List.getElem?_range hj]
      rw [e2]
      exact .t h1
theorem step_load_p (ty : TypeId) (x : Operand) {agg : Bool} {n : Nat} [hS : Shp P ty agg n] {row : List T} (hx : ρ x = .c (.t (.p row))) (hn : agg = false → n = 1) (hi : n ≤ row.length) :
    StepK P .p ⟨dst, .load ty x, ty0, pos, af, g⟩ ρ H H (takeAV agg n (row.map .t) 0) :=
  ⟨rfl, fun H2 E c a w K Q hC h hK => by
    refine (step_load_el (P := P) (dst := dst) (ty0 := ty0) (pos := pos) (af := af) (g := g) (ρ := fun _ => .c (.el row 0)) (H := H2) ty x (row := row) rfl hn (by omega)).2 H2 E c a w K Q hC (fun y hy => ?_) hK
    have hv := h x (by simp [Op.operands])
    have hy' : y = x := by simpa [Op.operands] using hy
    subst hy'
    rw [hx] at hv
    obtain ⟨b, o, vs, e, hc, hr⟩ := cp hv
    rw [e]
    exact .c (.el (off := o) (j := 0) vs hc hr)⟩
theorem step_nil_ptr (x : Operand) {k i : Nat} (hx : ρ x = .c (.ptr k i)) : StepK P .p ⟨dst, .nilCheck x, ty0, pos, af, g⟩ ρ H H (.c (.ptr k i)) :=
  stepP_val fun H E c w a _ h => by
    have hv := h x (by simp [Op.operands])
    rw [hx] at hv
    obtain ⟨b, ty, cells, e, ho, hm⟩ := cptr hv
    exact ⟨a.eval x, by simp [execOp, e], hv⟩
theorem step_nil_p (x : Operand) {row : List T} (hx : ρ x = .c (.t (.p row))) : StepK P .p ⟨dst, .nilCheck x, ty0, pos, af, g⟩ ρ H H (.c (.t (.p row))) :=
  stepP_val fun H E c w a _ h => by
    have hv := h x (by simp [Op.operands])
    rw [hx] at hv
    obtain ⟨b, o, vs, e, hc, hr⟩ := cp hv
    exact ⟨a.eval x, by simp [execOp, e], hv⟩
theorem step_nil_el (x : Operand) {row : List T} {j : Nat} (hx : ρ x = .c (.el row j)) : StepK P .p ⟨dst, .nilCheck x, ty0, pos, af, g⟩ ρ H H (.c (.el row j)) :=
  stepP_val fun H E c w a _ h => by
    have hv := h x (by simp [Op.operands])
    rw [hx] at hv
    obtain ⟨b, o, vs, e, hc, hr⟩ := cel hv
    exact ⟨a.eval x, by simp [execOp, e], hv⟩
theorem step_extract (x : Operand) (i : Nat) {l : List AV} (hx : ρ x = .tup l) (hi : i < l.length) : StepK P .p ⟨dst, .extract x i, ty0, pos, af, g⟩ ρ H H (l.getD i .dead) :=
  stepP_val fun H E c w a _ h => by
    have hv := h x (by simp [Op.operands])
    rw [hx] at hv
    generalize hval : a.eval x = val at hv
    cases hv with
    | tup vs l hl hr =>
      refine ⟨vs.getD i undef, ?_, hr i hi⟩
      have hlt : i < vs.length := by omega
      simp [execOp, hval, Instr.extract, hlt]
theorem step_pick (x y z : Operand) {b : Bool} {v : AV} (hx : ρ x = .c (.t (.v (.bool b)))) (hv : (if b then ρ y else ρ z) = v) : StepK P .p ⟨dst, .pick x y z, ty0, pos, af, g⟩ ρ H H v :=
  stepP_val fun H E c w a _ h => by
    have hb := h x (by simp [Op.operands])
    rw [hx] at hb
    have e := exAV_eq hb (y := .bool b) rfl
    refine ⟨if b then a.eval y else a.eval z, by simp [execOp, e, asBool], ?_⟩
    rw [← hv]
    cases b
    · exact h z (by simp [Op.operands])
    · exact h y (by simp [Op.operands])
end
end Go.Proofs.Ytiimkhnngpfnbaa.Fx
/- The single operations that make memory or write; calls; states told with less. No program in sight. -/
namespace Go.Proofs.Ytiimkhnngpfnbaa.Fx
open Go.RowKit
set_option linter.unusedVariables false
set_option linter.unusedSimpArgs false
mutual
/-- does a cell name nothing but what the heap has? -/
def okC (H : AHeap) : CV → Bool
  | .ptr k _ => (hget H k).isSome
  | .own k _ => (hget H k).isSome
  | .elo k _ _ _ => (hget H k).isSome
  | .fn _ a b => okL H a && okL H b
  | _ => true
def okL (H : AHeap) : List CV → Bool
  | [] => true
  | x :: t => okC H x && okL H t
end
mutual
def okAV (H : AHeap) : AV → Bool
  | .c x => okC H x
  | .agg l => okL H l
  | .tup l => okAL H l
  | .dead => true
def okAL (H : AHeap) : List AV → Bool
  | [] => true
  | x :: t => okAV H x && okAL H t
end
theorem okL_get {H : AHeap} : ∀ (l : List CV) (i : Nat), okL H l = true → okC H (l.getD i .dead) = true := by
  intro l
  induction l with
  | nil => intro i _; simp [okC]
  | cons x t ih =>
    intro i h
    simp only [okL, Bool.and_eq_true] at h
    cases i with
    | zero => simpa using h.1
    | succ i => simpa using ih i h.2
theorem okAL_get {H : AHeap} : ∀ (l : List AV) (i : Nat), okAL H l = true → okAV H (l.getD i .dead) = true := by
  intro l
  induction l with
  | nil => intro i _; simp [okAV]
  | cons x t ih =>
    intro i h
    simp only [okAL, Bool.and_eq_true] at h
    cases i with
    | zero => simpa using h.1
    | succ i => simpa using ih i h.2
theorem CRep.sub {c : Cx} {m : Nat → Value} {A' : Nat → Nat → Prop} {H H1 : AHeap} {w : World} (hs : SubH H1 H) (hm : ∀ k o, hget H1 k = some o → m k = c.m k) (hA : ∀ b i, c.A b i → A' b i) {v : Value} {x : CV} (h : CRep c H w v x) : okC H1 x = true → CRep ⟨m, A'⟩ H1 w v x := by
  have hmono : ∀ {v x}, TRep c.A w v x → TRep A' w v x := fun h => h.mono (fun b i v h1 h2 => ⟨hA _ _ h1, h2⟩)
  induction h with
  | dead v h => intro _; exact .dead v h
  | t h => intro _; exact .t (hmono h)
  | z a => intro _; exact .z a
  | ab b => intro _; exact .ab b
  | ptr ho hmk =>
    intro hok
    simp only [okC] at hok
    obtain ⟨o', ho'⟩ := Option.isSome_iff_exists.1 hok
    have e := hs _ _ ho'
    rw [ho] at e; injection e with e; subst e
    exact .ptr ho' ((hm _ _ ho').trans hmk)
  | own ho h1 hl hv =>
    intro hok
    simp only [okC] at hok
    obtain ⟨o', ho'⟩ := Option.isSome_iff_exists.1 hok
    have e := hs _ _ ho'
    rw [ho] at e; injection e with e; subst e
    exact .own ho' h1 hl (fun e => by rw [hv e]; exact (hm _ _ ho').symm)
  | el vs hc hr => intro _; exact .el vs (fun j hj => ⟨hA _ _ (hc j hj).1, (hc j hj).2⟩) (fun j hj => hmono (hr j hj))
  | elo ho h1 hl hv =>
    intro hok
    simp only [okC] at hok
    obtain ⟨o', ho'⟩ := Option.isSome_iff_exists.1 hok
    have e := hs _ _ ho'
    rw [ho] at e; injection e with e; subst e
    exact .elo ho' h1 hl (fun e => by
      obtain ⟨h2, b, cap, h3, h4⟩ := hv e
      exact ⟨h2, b, cap, (hm _ _ ho').trans h3, h4⟩)
  | fn f fs cs vs us h1 h2 hf hc ihf ihc =>
    intro hok
    simp only [okC, Bool.and_eq_true] at hok
    exact .fn f fs cs vs us h1 h2 (fun i hi => ihf i hi (okL_get _ _ hok.1)) (fun i hi => ihc i hi (okL_get _ _ hok.2))
theorem VRep.sub {c : Cx} {m : Nat → Value} {A' : Nat → Nat → Prop} {H H1 : AHeap} {w : World} (hs : SubH H1 H) (hm : ∀ k o, hget H1 k = some o → m k = c.m k) (hA : ∀ b i, c.A b i → A' b i) {v : Value} {x : AV} (h : VRep c H w v x) : okAV H1 x = true → VRep ⟨m, A'⟩ H1 w v x := by
  induction h with
  | dead v => intro _; exact .dead v
  | c h => intro hok; exact .c (h.sub hs hm hA hok)
  | agg cs l h1 h => intro hok; exact .agg cs l h1 (fun i hi => (h i hi).sub hs hm hA (okL_get _ _ hok))
  | tup vs l h1 h ih => intro hok; exact .tup vs l h1 (fun i hi => ih i hi (okAL_get _ _ hok))
/-- what holds whatever x is told of holds of y -/
def Coe (x y : AV) : Prop := ∀ c H w v, VRep c H w v x → VRep c H w v y
theorem Coe.refl (x : AV) : Coe x x := fun _ _ _ _ h => h
theorem Coe.dead (x : AV) : Coe x .dead := fun _ _ _ v _ => .dead v
def CoeC (x y : CV) : Prop := ∀ c H w v, CRep c H w v x → CRep c H w v y
theorem CoeC.refl (x : CV) : CoeC x x := fun _ _ _ _ h => h
theorem CoeC.dead (x : CV) : CoeC x .dead := fun _ _ _ v h => .dead v h.one
theorem CoeC.nil : CoeC (.t (.v (.slice none 0 0))) (.t (.s [])) := fun c H w v h => by
  cases h with
  | t h => cases h with
    | v x _ => exact .t (.e none 0)
theorem CoeC.z : CoeC .z (.t (.s [])) := fun c H w v h => by
  cases h with
  | z a => exact .t (.e a 0)
theorem Coe.c {x y : CV} (h : CoeC x y) : Coe (.c x) (.c y) := fun c H w v hv => by
  cases hv with
  | c hv => exact .c (h _ _ _ _ hv)
inductive CoeL : List CV → List CV → Prop where
  | nil : CoeL [] []
  | cons {x y : CV} {l k : List CV} (h : CoeC x y) (t : CoeL l k) : CoeL (x :: l) (y :: k)
theorem CoeL.get {l k : List CV} (h : CoeL l k) : l.length = k.length ∧ ∀ i, i < k.length → CoeC (l.getD i .dead) (k.getD i .dead) := by
  induction h with
  | nil => exact ⟨rfl, fun i hi => absurd hi (Nat.not_lt_zero _)⟩
  | cons h t ih =>
    refine ⟨by simp [ih.1], fun i hi => ?_⟩
    cases i with
    | zero => simpa using h
    | succ i => simpa using ih.2 i (by simpa using hi)
theorem Coe.agg {l k : List CV} (h : CoeL l k) : Coe (.agg l) (.agg k) := fun c H w v hv => by
  cases hv with
  | agg cs l h1 h2 => exact .agg cs _ (h1.trans h.get.1) (fun i hi => h.get.2 i hi _ _ _ _ (h2 i (by rw [h.get.1]; exact hi)))
inductive CoeA : List AV → List AV → Prop where
  | nil : CoeA [] []
  | cons {x y : AV} {l k : List AV} (h : Coe x y) (t : CoeA l k) : CoeA (x :: l) (y :: k)
theorem CoeA.get {l k : List AV} (h : CoeA l k) : l.length = k.length ∧ ∀ i, i < k.length → Coe (l.getD i .dead) (k.getD i .dead) := by
  induction h with
  | nil => exact ⟨rfl, fun i hi => absurd hi (Nat.not_lt_zero _)⟩
  | cons h t ih =>
    refine ⟨by simp [ih.1], fun i hi => ?_⟩
    cases i with
    | zero => simpa using h
    | succ i => simpa using ih.2 i (by simpa using hi)
theorem Coe.tup {l k : List AV} (h : CoeA l k) : Coe (.tup l) (.tup k) := fun c H w v hv => by
  cases hv with
  | tup cs l h1 h2 => exact .tup cs _ (h1.trans h.get.1) (fun i hi => h.get.2 i hi _ _ _ _ (h2 i (by rw [h.get.1]; exact hi)))
/-- a new object -/
theorem Conc.fresh0 {E : Ent} {c : Cx} {H : AHeap} {w : World} (hC : Conc E c H w) (k : Nat) (o : AObj) (hk : ∀ o', hget H k = some o' → blk (c.m k) = none ∧ ∃ ty n rows rows', o' = .row ty n rows ∧ o = .row ty n rows' ∧ rows.length < rows'.length) (val : Value) (cs : Array Value) (ty : TypeId) (hb : ∀ b, blk val = some b → b = w.heap.size)
    (ho : Later c H w ⟨fun j => if j = k then val else c.m j, c.A⟩ (hset H k o) (w.alloc (.cells cs ty)) → ObjRep ⟨fun j => if j = k then val else c.m j, c.A⟩ (hset H k o) (w.alloc (.cells cs ty)) k o) :
    Conc E ⟨fun j => if j = k then val else c.m j, c.A⟩ (hset H k o) (w.alloc (.cells cs ty)) ∧ Later c H w ⟨fun j => if j = k then val else c.m j, c.A⟩ (hset H k o) (w.alloc (.cells cs ty)) := by
  have hg : Grew w (w.alloc (.cells cs ty)) := Grew.of_below ((Below.refl _ _).alloc (Nat.le_refl _) _)
  have hl : Later c H w ⟨fun j => if j = k then val else c.m j, c.A⟩ (hset H k o) (w.alloc (.cells cs ty)) := by
    refine ⟨fun j t cells h => ?_, fun j t n rows h => ?_, fun b i v h1 h2 => ⟨h1, hg.cell h2⟩⟩
    · have e : j ≠ k := fun e => by
        subst e
        obtain ⟨_, _, _, _, _, e1, _⟩ := hk _ h
        cases e1
      exact ⟨cells, by rw [hget_hset, if_neg (Ne.symm e)]; exact h, if_neg e⟩
    · by_cases e : j = k
      · subst e
        obtain ⟨_, t', n', r1, r2, e1, e2, e3⟩ := hk _ h
        injection e1 with a1 a2 a3
        subst a1; subst a2; subst a3
        exact ⟨r2, by rw [hget_hset, if_pos rfl, e2], .inr e3⟩
      · exact ⟨rows, by rw [hget_hset, if_neg (Ne.symm e)]; exact h, .inl ⟨rfl, if_neg e⟩⟩
  refine ⟨⟨fun j o' h => ?_, fun j j' b h h' hb1 hb2 => ?_, fun b i h => Nat.lt_of_lt_of_le (hC.lt b i h) hg.size, hC.ent, hC.le, hC.new, fun j b h hb1 => ?_, fun b h1 h2 => ?_, hC.os, hC.tape, hC.output, Nat.le_trans hC.size hg.size, hC.pin.step hl⟩, hl⟩
  · rw [hget_hset] at h
    by_cases e : k = j
    · rw [if_pos e] at h; injection h with h; subst h; subst e; exact ho hl
    · rw [if_neg e] at h
      have h0 := hC.obj j o' h
      exact h0.later hl (if_neg (fun x => e x.symm)) (fun b hb => hg.block b (h0.blk_lt hb)) (fun b i hb => h0.noA hb i)
  · have key : ∀ j b, hget (hset H k o) j ≠ none → j ≠ k → blk ((fun j => if j = k then val else c.m j) j) = some b → hget H j ≠ none ∧ blk (c.m j) = some b ∧ b < w.heap.size := fun j b h1 h2 h3 => by
      rw [hget_hset, if_neg (Ne.symm h2)] at h1
      have h3' : blk (if j = k then val else c.m j) = some b := h3
      rw [if_neg h2] at h3'
      cases ho' : hget H j with
      | none => exact absurd ho' h1
      | some o' => exact ⟨by simp, h3', (hC.obj j o' ho').blk_lt h3'⟩
    by_cases e : j = k <;> by_cases e' : j' = k
    · rw [e, e']
    · have h1 := key j' b h' e' hb2
      simp only [e, if_true] at hb1
      have := hb b hb1
      omega
    · have h1 := key j b h e hb1
      simp only [e', if_true] at hb2
      have := hb b hb2
      omega
    · have h1 := key j b h e hb1
      have h2 := key j' b h' e' hb2
      exact hC.inj j j' b h1.1 h2.1 h1.2.1 h2.2.1
  · by_cases e : j = k
    · subst e
      simp only [if_true] at hb1
      right
      rw [hb b hb1]; exact hC.size
    · rw [hget_hset, if_neg (Ne.symm e)] at h
      simp only [if_neg e] at hb1
      exact hC.own j b h hb1
  · rw [hg.block b (Nat.lt_of_lt_of_le h1 hC.size)]; exact hC.keep b h1 h2
theorem Conc.fresh {E : Ent} {c : Cx} {H : AHeap} {w : World} (hC : Conc E c H w) (k : Nat) (hk : hget H k = none) (o : AObj) (val : Value) (cs : Array Value) (ty : TypeId) (hb : ∀ b, blk val = some b → b = w.heap.size)
    (ho : Later c H w ⟨fun j => if j = k then val else c.m j, c.A⟩ (hset H k o) (w.alloc (.cells cs ty)) → ObjRep ⟨fun j => if j = k then val else c.m j, c.A⟩ (hset H k o) (w.alloc (.cells cs ty)) k o) :
    Conc E ⟨fun j => if j = k then val else c.m j, c.A⟩ (hset H k o) (w.alloc (.cells cs ty)) ∧ Later c H w ⟨fun j => if j = k then val else c.m j, c.A⟩ (hset H k o) (w.alloc (.cells cs ty)) :=
  hC.fresh0 k o (fun o' h => by rw [hk] at h; cases h) val cs ty hb ho
/-- a row without room -/
theorem Conc.adopt {E : Ent} {c : Cx} {H : AHeap} {w : World} (hC : Conc E c H w) (k : Nat) (hk : hget H k = none) (e : TypeId) (n : Nat) (hn : 0 < n) (a : Option Addr) :
    Conc E ⟨fun j => if j = k then .slice a 0 0 else c.m j, c.A⟩ (hset H k (.row e n [])) w ∧ Later c H w ⟨fun j => if j = k then .slice a 0 0 else c.m j, c.A⟩ (hset H k (.row e n [])) w ∧ CRep ⟨fun j => if j = k then .slice a 0 0 else c.m j, c.A⟩ (hset H k (.row e n [])) w (.slice a 0 0) (.own k 0) := by
  have hbz : blk (.slice a 0 0) = none := by cases a <;> rfl
  have hne : ∀ j o', hget H j = some o' → j ≠ k := fun j o' h e => by rw [e, hk] at h; cases h
  have hl : Later c H w ⟨fun j => if j = k then .slice a 0 0 else c.m j, c.A⟩ (hset H k (.row e n [])) w :=
    ⟨fun j t cells h => ⟨cells, by rw [hget_hset, if_neg (Ne.symm (hne j _ h))]; exact h, if_neg (hne j _ h)⟩,
     fun j t n rows h => ⟨rows, by rw [hget_hset, if_neg (Ne.symm (hne j _ h))]; exact h, .inl ⟨rfl, if_neg (hne j _ h)⟩⟩,
     fun b i v h1 h2 => ⟨h1, h2⟩⟩
  have hbk : ∀ j b, hget (hset H k (.row e n [])) j ≠ none → blk (if j = k then (.slice a 0 0 : Value) else c.m j) = some b → j ≠ k ∧ hget H j ≠ none ∧ blk (c.m j) = some b := fun j b h1 h2 => by
    by_cases e1 : j = k
    · rw [if_pos e1, hbz] at h2; cases h2
    · rw [if_neg e1] at h2
      rw [hget_hset, if_neg (Ne.symm e1)] at h1
      exact ⟨e1, h1, h2⟩
  refine ⟨⟨fun j o' h => ?_, fun j j' b h1 h2 b1 b2 => ?_, hC.lt, hC.ent, hC.le, hC.new, fun j b h1 b1 => ?_, hC.keep, hC.os, hC.tape, hC.output, hC.size, hC.pin.step hl⟩, hl, .own (by rw [hget_hset, if_pos rfl]) rfl (Nat.le_refl _) (fun _ => (if_pos rfl).symm)⟩
  · rw [hget_hset] at h
    by_cases e1 : k = j
    · rw [if_pos e1] at h; injection h with h; subst h; subst e1
      refine ⟨hn, [], .inl ⟨a, if_pos rfl, rfl, rfl⟩, fun i hi => absurd hi (Nat.not_lt_zero _), fun b hb => ?_⟩
      have hb' : blk (if k = k then (.slice a 0 0 : Value) else c.m k) = some b := hb
      rw [if_pos rfl, hbz] at hb'; cases hb'
    · rw [if_neg e1] at h
      have h0 := hC.obj j o' h
      exact h0.later hl (if_neg (fun x => e1 x.symm)) (fun b hb => rfl) (fun b i hb => h0.noA hb i)
  · obtain ⟨_, g1, g2⟩ := hbk j b h1 b1
    obtain ⟨_, g3, g4⟩ := hbk j' b h2 b2
    exact hC.inj j j' b g1 g3 g2 g4
  · obtain ⟨_, g1, g2⟩ := hbk j b h1 b1
    exact hC.own j b g1 g2
section
variable {P : Program} {dst : Option Tmp} {ty0 : TypeId} {pos : String} {af : Array Edge} {g : Option (Nat × Bool)} {ρ : Operand → AV} {H : AHeap}
theorem heap_new (w : World) (o : Obj) : (w.alloc o).heap[w.heap.size]? = some o := heap_alloc_new w o
/-- a new variable -/
theorem Conc.newVar {E : Ent} {c : Cx} {H : AHeap} {w : World} (hC : Conc E c H w) (k : Nat) (hk : hget H k = none) (ty : TypeId) (cs : List Value) (cells : List CV) (hl : cs.length = cells.length) (h : ∀ i, i < cells.length → CRep c H w (cs.getD i undef) (cells.getD i .dead)) :
    ∃ c', Conc E c' (hset H k (.var ty cells)) (w.alloc (.cells cs.toArray ty)) ∧ Later c H w c' (hset H k (.var ty cells)) (w.alloc (.cells cs.toArray ty)) ∧ CRep c' (hset H k (.var ty cells)) (w.alloc (.cells cs.toArray ty)) (.pointer (some ⟨w.heap.size, 0, none⟩)) (.ptr k 0) := by
  obtain ⟨h1, h2⟩ := hC.fresh k hk (.var ty cells) (.pointer (some ⟨w.heap.size, 0, none⟩)) cs.toArray ty (fun b hb => by injection hb with hb; exact hb.symm) (fun hlat =>
    ⟨w.heap.size, cs.toArray, if_pos rfl, heap_new w _, by simpa using hl, fun i hi => by
      have := (h i hi).later hlat
      simpa using this, fun i hA => by have := hC.lt _ _ hA; omega⟩)
  exact ⟨_, h1, h2, .ptr (by rw [hget_hset, if_pos rfl]) (if_pos rfl)⟩
theorem zro_run {ty : TypeId} {l : List Value} (h : (P.info? ty).map (fun i => i.zero.map (fun z => z.cells.toList)) = some (some l)) (w : World) : ∃ z : Value, z.cells.toList = l ∧ (zeroValue ty).run P w = .ok z w := by
  cases hi : P.info? ty with
  | none => rw [hi] at h; cases h
  | some i =>
    rw [hi] at h
    simp only [Option.map_some, Option.some.injEq] at h
    cases hz : i.zero with
    | none => rw [hz] at h; cases h
    | some z =>
      rw [hz] at h
      simp only [Option.map_some, Option.some.injEq] at h
      exact ⟨z, h, by simp [zeroValue, typeInfo, hi, hz]⟩
theorem step_alloc (k : Nat) (ty : TypeId) {l : List Value} [hZ : Zro P ty l] (hk : hget H k = none) : StepK P .w ⟨dst, .alloc ty, ty0, pos, af, g⟩ ρ H (hset H k (.var ty (l.map fun x => .t (.v x)))) (.c (.ptr k 0)) := by
  intro E c a w K Q hC hx hK
  obtain ⟨z, h1, h2⟩ := zro_run hZ.h w
  obtain ⟨c', g1, g2, g3⟩ := hC.newVar k hk ty l (l.map fun x => .t (.v x)) (by simp) (fun i hi => by
    have hi' : i < l.length := by simpa using hi
    have e1 : (l.map fun x => CV.t (.v x)).getD i .dead = .t (.v l[i]) := by simp [List.getD_eq_getElem?_getD, List.getElem?_map, List.getElem?_eq_getElem hi']
    have e2 : l.getD i undef = l[i] := by simp [List.getD_eq_getElem?_getD, List.getElem?_eq_getElem hi']
    rw [e1, e2]
    exact .t (.v _ (List.all_eq_true.1 hZ.one _ (List.getElem_mem hi'))))
  have hrun : (execOp a.eval ⟨dst, .alloc ty, ty0, pos, af, g⟩).run P w = .ok (.value (.pointer (some ⟨w.heap.size, 0, none⟩))) (w.alloc (.cells l.toArray ty)) := by
    have e : z.cells = l.toArray := by rw [← h1]
    simp [execOp, Instr.alloc, h2, Go.newVar, newRow, newObj, Sem.run, e]
  unfold Oper.wp
  rw [hrun]
  exact hK _ c' _ g1 g2 (.c g3)
/-- a value's cells -/
def cellsAV : AV → Option (List CV)
  | .c x => some [x]
  | .agg l => some l
  | _ => none
theorem cells_rep {c : Cx} {H : AHeap} {w : World} {v : Value} {x : AV} {l : List CV} (h : VRep c H w v x) (hl : cellsAV x = some l) : v.cells.size = l.length ∧ (∀ i, i < l.length → CRep c H w (v.cells.toList.getD i undef) (l.getD i .dead)) := by
  cases h with
  | c h =>
    rename_i x
    injection hl with hl; subst hl
    have h1 := h.one
    have e : v.cells = #[v] := by cases v <;> first | rfl | cases h1
    rw [e]
    refine ⟨rfl, fun i hi => ?_⟩
    have : i = 0 := by simpa using hi
    subst this
    simpa using h
  | agg cs l h1 h2 =>
    injection hl with hl; subst hl
    exact ⟨by simpa [Value.cells] using h1, fun i hi => by simpa [Value.cells] using h2 i hi⟩
  | _ => cases hl
theorem step_box (k : Nat) (ty : TypeId) (x : Operand) {l : List CV} (hk : hget H k = none) (hx : cellsAV (ρ x) = some l) : StepK P .w ⟨dst, .box ty x, ty0, pos, af, g⟩ ρ H (hset H k (.var ty l)) (.c (.ptr k 0)) := by
  intro E c a w K Q hC hx' hK
  obtain ⟨h1, h2⟩ := cells_rep (hx' x (by simp [Op.operands])) hx
  obtain ⟨c', g1, g2, g3⟩ := hC.newVar k hk ty (a.eval x).cells.toList l (by simpa using h1) h2
  have hrun : (execOp a.eval ⟨dst, .box ty x, ty0, pos, af, g⟩).run P w = .ok (.value (.pointer (some ⟨w.heap.size, 0, none⟩))) (w.alloc (.cells (a.eval x).cells.toList.toArray ty)) := by
    simp [execOp, Instr.box, Go.newVar, newRow, newObj, Sem.run]
  unfold Oper.wp
  rw [hrun]
  exact hK _ c' _ g1 g2 (.c g3)
/-- cells put in the place of others -/
def splice {α : Type} (l : List α) (i : Nat) (xs : List α) : List α := l.take i ++ xs ++ l.drop (i + xs.length)
theorem splice_getD {α : Type} (l : List α) (i : Nat) (xs : List α) (h : i + xs.length ≤ l.length) (j : Nat) (d : α) : (splice l i xs).getD j d = if i ≤ j ∧ j < i + xs.length then xs.getD (j - i) d else l.getD j d := by
  unfold splice
  simp only [List.getD_eq_getElem?_getD]
  rw [List.append_assoc]
  by_cases h1 : j < i
  · rw [List.getElem?_append_left (by simp; omega), List.getElem?_take, if_pos h1, if_neg (by omega)]
  · rw [List.getElem?_append_right (by simp; omega)]
    have e : min i l.length = i := by omega
    rw [List.length_take, e]
    by_cases h2 : j < i + xs.length
    · rw [List.getElem?_append_left (by omega), if_pos ⟨by omega, h2⟩]
    · rw [List.getElem?_append_right (by omega), List.getElem?_drop, if_neg (by omega)]
      congr 2; omega
theorem splice_length {α : Type} (l : List α) (i : Nat) (xs : List α) (h : i + xs.length ≤ l.length) : (splice l i xs).length = l.length := by
  unfold splice; simp; omega
/-- a variable's cells, written -/
theorem Conc.writeVar {E : Ent} {c : Cx} {H : AHeap} {w w' : World} (hC : Conc E c H w) {k b : Nat} {ty : TypeId} {cells cells' : List CV} (hk : hget H k = some (.var ty cells)) (hm : c.m k = .pointer (some ⟨b, 0, none⟩)) (cs' : List Value)
    (hh : ∀ j, j ≠ b → w'.heap[j]? = w.heap[j]?) (hb : w'.heap[b]? = some (.cells cs'.toArray ty (0, 0))) (hsz : w'.heap.size = w.heap.size) (h1 : w'.os = w.os) (h2 : w'.tape = w.tape) (h3 : w'.output = w.output)
    (hl : cs'.length = cells'.length) (hr : ∀ i, i < cells'.length → CRep c H w (cs'.getD i undef) (cells'.getD i .dead)) :
    Conc E c (hset H k (.var ty cells')) w' ∧ Later c H w c (hset H k (.var ty cells')) w' := by
  have hkb : blk (c.m k) = some b := by rw [hm]; rfl
  have hnA := (hC.obj k _ hk).noA hkb
  have hlat : Later c H w c (hset H k (.var ty cells')) w' := by
    refine ⟨fun j t cl h => ?_, fun j t n rows h => ?_, fun b' i v g1 g2 => ⟨g1, ?_⟩⟩
    · by_cases e : k = j
      · subst e; rw [hk] at h; injection h with h; injection h with e1 e2
        exact ⟨cells', by rw [hget_hset, if_pos rfl, e1], rfl⟩
      · exact ⟨cl, by rw [hget_hset, if_neg e]; exact h, rfl⟩
    · by_cases e : k = j
      · subst e; rw [hk] at h; cases h
      · exact ⟨rows, by rw [hget_hset, if_neg e]; exact h, .inl ⟨rfl, rfl⟩⟩
    · have hne : b' ≠ b := fun e => hnA i (e ▸ g1)
      rw [World.cell?_of_block (w := w) (a := ⟨b', i, none⟩) (hh b' hne)]; exact g2
  refine ⟨⟨fun j o h => ?_, fun j j' b' g1 g2 => hC.inj j j' b' ?_ ?_, fun b' i h => by rw [hsz]; exact hC.lt b' i h, hC.ent, hC.le, hC.new, fun j b' h hb' => hC.own j b' ?_ hb', fun b' g1 g2 => ?_, h1.trans hC.os, h2.trans hC.tape, h3.trans hC.output, by rw [hsz]; exact hC.size, hC.pin.step hlat⟩, hlat⟩
  · rw [hget_hset] at h
    by_cases e : k = j
    · rw [if_pos e] at h; injection h with h; subst h; subst e
      exact ⟨b, cs'.toArray, hm, hb, by simpa using hl, fun i hi => by simpa using (hr i hi).later hlat, hnA⟩
    · rw [if_neg e] at h
      have h0 := hC.obj j o h
      refine h0.later hlat rfl (fun b' hb' => hh b' (fun e2 => ?_)) (fun b' i hb' => h0.noA hb' i)
      subst e2
      exact e (hC.inj k j b' (by rw [hk]; simp) (by rw [h]; simp) hkb hb')
  · rw [hget_hset] at g1; split at g1
    · rename_i e; subst e; rw [hk]; simp
    · exact g1
  · rw [hget_hset] at g2; split at g2
    · rename_i e; subst e; rw [hk]; simp
    · exact g2
  · rw [hget_hset] at h; split at h
    · rename_i e; subst e; rw [hk]; simp
    · exact h
  · have hne : b' ≠ b := by
      rintro rfl
      rcases hC.own k b' (by rw [hk]; simp) hkb with h | h
      · exact g2 h
      · omega
    rw [hh b' hne]; exact hC.keep b' g1 g2
theorem step_store_ptr (ty : TypeId) (x y : Operand) {agg : Bool} {n : Nat} [hS : Shp P ty agg n] {k i : Nat} {vt : TypeId} {cells l : List CV} (hx : ρ x = .c (.ptr k i)) (ho : hget H k = some (.var vt cells)) (hy : cellsAV (ρ y) = some l) (hl : l.length = n) (hi : i + n ≤ cells.length) :
    StepK P .w ⟨dst, .store ty x y, ty0, pos, af, g⟩ ρ H (hset H k (.var vt (splice cells i l))) (.tup []) := by
  intro E c a w K Q hC hxx hK
  have hv := hxx x (by simp [Op.operands])
  rw [hx] at hv
  obtain ⟨b, ty', cells', e, ho', hm⟩ := cptr hv
  obtain ⟨b', cs, g1, g2, g3, g4, g5⟩ := hC.obj k _ ho
  have hbb : b' = b := by rw [hm] at g1; injection g1 with g1; injection g1 with g1; injection g1 with g1; exact g1.symm
  subst hbb
  obtain ⟨q1, q2⟩ := cells_rep (hxx y (by simp [Op.operands])) hy
  have hone : ∀ v ∈ (a.eval y).cells.toList, v.oneCell' = true := fun v hv => by
    obtain ⟨j, hj, rfl⟩ := List.mem_iff_getElem.1 hv
    have hj' : j < l.length := by rw [← q1]; simpa using hj
    have := (q2 j hj').one
    simpa [List.getD_eq_getElem?_getD, List.getElem?_eq_getElem hj] using this
  have hrun := run_storeCells_at (P := P) b' i vt (a.eval y).cells.toList 0 cs w g2 (by simp; omega) hone
  have hexec : (execOp a.eval ⟨dst, .store ty x y, ty0, pos, af, g⟩).run P w = .ok .skip (w.setRow b' (splice cs.toList i (a.eval y).cells.toList).toArray) := by
    simp only [execOp, e, Instr.storeAt, Instr.sureAddr, storeVar, Sem.run_bind, Sem.run_pure, Result.andThen_ok, Shp.size hS.h]
    rw [if_neg (by simp; omega)]
    rw [hrun]
    simp [splice, Result.andThen]
  unfold Oper.wp
  rw [hexec]
  have hlen : i + (a.eval y).cells.toList.length ≤ cs.toList.length := by simp; omega
  have hset' : (w.setRow b' (splice cs.toList i (a.eval y).cells.toList).toArray).heap[b']? = some (.cells (splice cs.toList i (a.eval y).cells.toList).toArray vt (0, 0)) := setRow_heap w b' cs _ vt _ g2
  obtain ⟨k1, k2⟩ := hC.writeVar (w' := w.setRow b' (splice cs.toList i (a.eval y).cells.toList).toArray) (cells' := splice cells i l) ho hm (splice cs.toList i (a.eval y).cells.toList)
    (fun j hj => setRow_other w b' j _ hj) hset' (by simp) rfl rfl rfl (by rw [splice_length _ _ _ hlen, splice_length _ _ _ (by omega)]; simpa using g3) (fun j hj => by
      rw [splice_length _ _ _ (by omega)] at hj
      rw [splice_getD _ _ _ hlen, splice_getD _ _ _ (by omega)]
      have e1 : (a.eval y).cells.toList.length = l.length := by simpa using q1
      rw [e1]
      split
      · rename_i hj2; exact q2 _ (by omega)
      · have := g4 j hj; simpa using this)
  exact hK undef _ _ k1 k2 (.tup [] [] rfl (fun i hi => absurd hi (Nat.not_lt_zero _)))
end
end Go.Proofs.Ytiimkhnngpfnbaa.Fx
/- Slices made, grown, and handed on; structures built; calls; the rule for a function. No program in sight. -/
namespace Go.Proofs.Ytiimkhnngpfnbaa.Fx
open Go.RowKit
set_option linter.unusedVariables false
set_option linter.unusedSimpArgs false
section
variable {P : Program} {dst : Option Tmp} {ty0 : TypeId} {pos : String} {af : Array Edge} {g : Option (Nat × Bool)} {ρ : Operand → AV} {H : AHeap}
/-- a type's parts: where each lies, and its size -/
def placesB (P : Program) (ty : TypeId) (l : List (Nat × Nat)) : Bool :=
  match P.underlying ty with
  | some (.struct fs) => (fs.toList.map fun f => (f.offset, (P.info? f.type).map (·.size))) == l.map fun p => (p.1, some p.2)
  | _ => false
class Stc (P : Program) (ty : TypeId) (l : outParam (List (Nat × Nat))) : Prop where
  h : placesB P ty l = true
/-- parts put into cells -/
def fillA (places : List (Nat × Nat)) (cells : List CV) : List (Nat × AV) → Option (List CV)
  | [] => some cells
  | (i, v) :: rest =>
    match places[i]?, cellsAV v with
    | some (off, size), some l => if l.length = size ∧ off + size ≤ cells.length then fillA places (splice cells off l) rest else none
    | _, _ => none
theorem zip_fold (off : Nat) : ∀ (l : List Value) (s : Nat) (cs : Array Value), off + s + l.length ≤ cs.size → ((l.zipIdx s).foldl (fun cs (x : Value × Nat) => cs.setIfInBounds (off + x.2) x.1) cs).toList = splice cs.toList (off + s) l := by
  intro l
  induction l with
  | nil => intro s cs _; simp [splice]
  | cons x t ih =>
    intro s cs h
    rw [List.zipIdx_cons, List.foldl_cons, ih (s + 1) _ (by simp at h ⊢; omega)]
    dsimp only
    apply List.ext_getElem?
    intro j
    have key : ∀ (l : List Value) (j : Nat) (d : Value), j < l.length → l[j]? = some (l.getD j d) := fun l j d hj => by simp [List.getD_eq_getElem?_getD, List.getElem?_eq_getElem hj]
    have hlen1 : (splice (cs.setIfInBounds (off + s) x).toList (off + (s + 1)) t).length = cs.size := by rw [splice_length _ _ _ (by simp at h ⊢; omega)]; simp
    have hlen2 : (splice cs.toList (off + s) (x :: t)).length = cs.size := by rw [splice_length _ _ _ (by simp at h ⊢; omega)]; simp
    by_cases hj : j < cs.size
    · rw [key _ j undef (by rw [hlen1]; exact hj), key _ j undef (by rw [hlen2]; exact hj)]
      rw [splice_getD _ _ _ (by simp at h ⊢; omega), splice_getD _ _ _ (by simp at h ⊢; omega)]
      by_cases h1 : j = off + s
      · subst h1
        rw [if_neg (by omega), if_pos (by simp)]
        simp [List.getD_eq_getElem?_getD, Array.getElem?_setIfInBounds, hj]
      · by_cases h2 : off + (s + 1) ≤ j ∧ j < off + (s + 1) + t.length
        · rw [if_pos h2, if_pos (by simp; omega)]
          have e : j - (off + s) = (j - (off + (s + 1))) + 1 := by omega
          rw [e]; simp
        · rw [if_neg h2, if_neg (by simp; omega)]
          have h3 : off + s ≠ j := fun e => h1 e.symm
          simp [List.getD_eq_getElem?_getD, List.getElem?_set_ne h3]
    · rw [List.getElem?_eq_none (by omega), List.getElem?_eq_none (by omega)]
theorem fill_run {c : Cx} {H : AHeap} {w : World} (places : List (Nat × Nat)) (pl : Nat → Option (Nat × Nat)) (hpl : ∀ i, pl i = places[i]?) : ∀ (parts : List (Nat × Value)) (ps : List (Nat × AV)) (cells : Array Value) (cl r : List CV), parts.length = ps.length →
    (∀ i, i < ps.length → (parts.getD i (0, undef)).1 = (ps.getD i (0, .dead)).1 ∧ VRep c H w (parts.getD i (0, undef)).2 (ps.getD i (0, .dead)).2) → cells.size = cl.length → (∀ i, i < cl.length → CRep c H w (cells.toList.getD i undef) (cl.getD i .dead)) → fillA places cl ps = some r →
    ∃ cells', Instr.fill pl cells parts = some cells' ∧ cells'.size = r.length ∧ ∀ i, i < r.length → CRep c H w (cells'.toList.getD i undef) (r.getD i .dead) := by
  intro parts
  induction parts with
  | nil =>
    intro ps cells cl r h1 _ h3 h4 h5
    have : ps = [] := List.length_eq_zero_iff.1 (by simpa using h1.symm)
    subst this
    injection h5 with h5; subst h5
    exact ⟨cells, rfl, h3, h4⟩
  | cons p t ih =>
    intro ps cells cl r h1 h2 h3 h4 h5
    cases ps with
    | nil => simp at h1
    | cons q u =>
      obtain ⟨i, v⟩ := p
      obtain ⟨i', x⟩ := q
      obtain ⟨e1, e2⟩ := h2 0 (by simp)
      simp at e1 e2
      subst e1
      unfold fillA at h5
      cases hp : places[i]? with
      | none => rw [hp] at h5; cases h5
      | some os =>
        obtain ⟨off, size⟩ := os
        cases hc : cellsAV x with
        | none => rw [hp, hc] at h5; cases h5
        | some l =>
          rw [hp, hc] at h5
          simp only at h5
          split at h5
          · rename_i hs
            obtain ⟨g1, g2⟩ := cells_rep e2 hc
            unfold Instr.fill
            rw [hpl, hp]
            simp only
            have hsz : ¬ ((decide (v.cells.size ≠ size) || decide (off + v.cells.size > cells.size)) = true) := by
              simp only [Bool.or_eq_true, decide_eq_true_eq]
              rw [g1, h3]; omega
            rw [if_neg hsz]
            have hz := zip_fold off v.cells.toList 0 cells (by simp; omega)
            have hfold : v.cells.zipIdx.foldl (fun cs (x : Value × Nat) => cs.setIfInBounds (off + x.2) x.1) cells = (splice cells.toList off v.cells.toList).toArray := by
              rw [← Array.foldl_toList, Array.toList_zipIdx]
              apply Array.ext'
              rw [hz]; simp
            have hlenl : v.cells.toList.length = l.length := by simpa using g1
            refine (ih u _ (splice cl off l) r (by simpa using h1) (fun j hj => by have := h2 (j + 1) (by simpa using hj); simpa using this) ?_ (fun j hj => ?_) h5)
            · rw [hfold]
              simp only [List.size_toArray]
              rw [splice_length _ _ _ (by simp; omega), splice_length _ _ _ (by omega)]
              simpa using h3
            · rw [hfold]
              rw [splice_length _ _ _ (by omega)] at hj
              simp only
              rw [splice_getD _ _ _ (by simp; omega), splice_getD _ _ _ (by omega), hlenl]
              split
              · exact g2 _ (by omega)
              · exact h4 j hj
          · cases h5
theorem places_run {ty : TypeId} {l : List (Nat × Nat)} (h : placesB P ty l = true) : ∃ fs, P.underlying ty = some (.struct fs) ∧ ∀ w, (fs.mapM fun f => do pure (f.offset, ← sizeOf f.type) : Sem (Array (Nat × Nat))).run P w = .ok l.toArray w := by
  unfold placesB at h
  split at h
  · rename_i fs hu
    refine ⟨fs, hu, fun w => ?_⟩
    have h' := eq_of_beq h
    have key : ∀ (fl : List Field) (l : List (Nat × Nat)), (fl.map fun f => (f.offset, (P.info? f.type).map (·.size))) = l.map (fun p => (p.1, some p.2)) → (fl.mapM fun f => do pure (f.offset, ← sizeOf f.type) : Sem (List (Nat × Nat))).run P w = .ok l w := by
      intro fl
      induction fl with
      | nil => intro l hl; cases l with
        | nil => simp
        | cons _ _ => cases hl
      | cons f t ih =>
        intro l hl
        cases l with
        | nil => cases hl
        | cons p l =>
          simp only [List.map_cons, List.cons.injEq, Prod.mk.injEq] at hl
          obtain ⟨⟨e1, e2⟩, e3⟩ := hl
          obtain ⟨p1, p2⟩ := p
          simp only at e1 e2
          cases hi : P.info? f.type with
          | none => rw [hi] at e2; cases e2
          | some inf =>
            rw [hi] at e2
            simp only [Option.map_some, Option.some.injEq] at e2
            have hsize : (sizeOf f.type).run P w = .ok p2 w := by simp [Go.sizeOf, typeInfo, hi, e2]
            rw [List.mapM_cons]
            simp only [Sem.run_bind, hsize, Result.andThen_ok, Sem.run_pure, ih l e3, e1]
    rw [Array.mapM_eq_mapM_toList]
    simp only [map_eq_pure_bind, Sem.run_bind, key fs.toList l h', Result.andThen_ok, Sem.run_pure]
  · cases h
/-- a structure, of its parts -/
theorem step_build (ty : TypeId) (parts : List (Nat × Operand)) {pl : List (Nat × Nat)} {z : List Value} [hS : Stc P ty pl] [hZ : Zro P ty z] {r : List CV} (hr : fillA pl (z.map fun x => .t (.v x)) (parts.map fun p => (p.1, ρ p.2)) = some r) :
    StepK P .p ⟨dst, .build ty parts.toArray, ty0, pos, af, g⟩ ρ H H (.agg r) :=
  stepP_val fun H E c w a _ h => by
    obtain ⟨fs, hu, hpl⟩ := places_run hS.h
    obtain ⟨zv, hz1, hz2⟩ := zro_run hZ.h w
    have hparts : ∀ i, i < (parts.map fun p => (p.1, ρ p.2)).length → ((parts.map fun p => (p.1, a.eval p.2)).getD i (0, undef)).1 = ((parts.map fun p => (p.1, ρ p.2)).getD i (0, .dead)).1 ∧ VRep c H w ((parts.map fun p => (p.1, a.eval p.2)).getD i (0, undef)).2 ((parts.map fun p => (p.1, ρ p.2)).getD i (0, .dead)).2 := fun i hi => by
      have hi' : i < parts.length := by simpa using hi
      simp only [List.getD_eq_getElem?_getD, List.getElem?_map, List.getElem?_eq_getElem hi', Option.map_some, Option.getD_some]
      exact ⟨trivial, h _ (by simp [Op.operands]; exact ⟨_, List.getElem_mem hi'⟩)⟩
    obtain ⟨cells', f1, f2, f3⟩ := fill_run (c := c) (H := H) (w := w) pl (fun i => (pl.toArray[i]? : Option (Nat × Nat))) (fun i => by simp) (parts.map fun p => (p.1, a.eval p.2)) _ zv.cells (z.map fun x => .t (.v x)) r (by simp) hparts (by rw [List.length_map, ← hz1]; simp) (fun i hi => by
      have hi' : i < z.length := by simpa using hi
      rw [hz1]
      have e1 : (z.map fun x => CV.t (.v x)).getD i .dead = .t (.v z[i]) := by simp [List.getD_eq_getElem?_getD, List.getElem?_map, List.getElem?_eq_getElem hi']
      have e2 : z.getD i undef = z[i] := by simp [List.getD_eq_getElem?_getD, List.getElem?_eq_getElem hi']
      rw [e1, e2]
      exact .t (.v _ (List.all_eq_true.1 hZ.one _ (List.getElem_mem hi')))) hr
    refine ⟨.agg cells', ?_, ?_⟩
    · have e : (parts.toArray.map fun (x : Nat × Operand) => (x.1, a.eval x.2)).toList = parts.map fun p => (p.1, a.eval p.2) := by simp
      simp only [execOp, Instr.build, Sem.run_bind, hz2, Result.andThen_ok, run_underlying hu, hpl]
      have hm : (parts.toArray.map fun (i, x) => (i, a.eval x)).toList = parts.map fun p => (p.1, a.eval p.2) := by simp
      rw [hm, f1]
      simp [Result.andThen]
    · have e : Value.agg cells' = .agg cells'.toList.toArray := by simp
      rw [e]
      exact .agg _ _ (by simpa using f2) f3
/-- a part of a structure -/
theorem step_field (ty : TypeId) (x : Operand) (f : Nat) {off n : Nat} {agg : Bool} [hF : Fld P ty f off n agg] {l : List CV} (hx : ρ x = .agg l) (hn : agg = false → n = 1) (hl : off + n ≤ l.length) : StepK P .p ⟨dst, .field ty x f, ty0, pos, af, g⟩ ρ H H (takeAV agg n l off) :=
  stepP_val fun H E c w a _ h => by
    have hv := h x (by simp [Op.operands])
    rw [hx] at hv
    generalize hval : a.eval x = val at hv
    cases hv with
    | agg cs l h1 h2 =>
      have hb := hF.h
      unfold fldB at hb
      split at hb
      · rename_i fs hu
        split at hb
        · rename_i d hd
          simp only [Bool.and_eq_true, beq_iff_eq, decide_eq_true_eq] at hb
          obtain ⟨⟨e1, e2⟩, e3⟩ := hb
          refine ⟨if agg then .agg ((List.range n).map fun j => cs.getD (off + j) undef).toArray else ((List.range n).map fun j => cs.getD (off + j) undef).getD 0 undef, ?_, take_rep (l := l) (i := off) (cs := (List.range n).map fun j => cs.getD (off + j) undef) (by simp) hn hl (fun j hj => ?_)⟩
          · cases agg with
            | true =>
              simp only [execOp, hval, Instr.field, Sem.run_bind, run_underlying hu, Result.andThen_ok, hd, asAgg, Sem.run_pure, part, Shp.isAgg e2, if_true, Shp.size e2, e1]
              congr 3
              apply Array.ext'
              apply List.ext_getElem?
              intro j
              by_cases hj : j < n
              · have hlt : off + j < cs.length := by omega
                simp [List.getElem?_map, List.getElem?_range hj, List.getD_eq_getElem?_getD, hlt, List.getElem?_take, List.getElem?_drop, hj]
              · rw [List.getElem?_eq_none (by simp; omega), List.getElem?_eq_none (by simp; omega)]
            | false =>
              have := hn rfl
              subst this
              have hlt : off < cs.length := by omega
              simp only [execOp, hval, Instr.field, Sem.run_bind, run_underlying hu, Result.andThen_ok, hd, asAgg, Sem.run_pure, part, Shp.isAgg e2, e1]
              simp [hlt, List.getD_eq_getElem?_getD]
          · have := h2 (off + j) (by omega)
            simpa [List.getD_eq_getElem?_getD, List.getElem?_map, List.getElem?_range hj] using this
        · cases hb
      · cases hb
end
end Go.Proofs.Ytiimkhnngpfnbaa.Fx
/- Slices: literals, made ones, appends, elements. No program in sight. -/
namespace Go.Proofs.Ytiimkhnngpfnbaa.Fx
open Go.RowKit
set_option linter.unusedVariables false
set_option linter.unusedSimpArgs false
section
variable {P : Program} {dst : Option Tmp} {ty0 : TypeId} {pos : String} {af : Array Edge} {g : Option (Nat × Bool)} {ρ : Operand → AV} {H : AHeap}
structure SliF (P : Program) (ty e : TypeId) (n bytes : Nat) : Prop where
  u : P.underlying ty = some (.slice e)
  i : ∃ inf z, P.info? e = some inf ∧ inf.zero = some z ∧ inf.size = n ∧ inf.bytes = bytes ∧ z.cells.size = n
  pos : 0 < n
theorem sli_facts {ty e : TypeId} {n bytes : Nat} (hb : sliB P ty e n bytes = true) : SliF P ty e n bytes := by
  unfold sliB at hb
  cases hu : P.underlying ty with
  | none => rw [hu] at hb; simp at hb
  | some d =>
    rw [hu] at hb
    cases d <;> simp at hb
    rename_i e'
    obtain ⟨⟨rfl, hb2⟩, hb3⟩ := hb
    cases hinf : P.info? e' with
    | none => rw [hinf] at hb2; cases hb2
    | some inf =>
      rw [hinf] at hb2
      simp at hb2
      obtain ⟨⟨h1, h2⟩, h3⟩ := hb2
      cases hz : inf.zero with
      | none => rw [hz] at h3; cases h3
      | some z =>
        rw [hz] at h3
        exact ⟨hu, ⟨inf, z, hinf, hz, h1, h2, by simpa using h3⟩, hb3⟩
/-- trees alone -/
def treeC : CV → Option T
  | .t (.v (.slice none 0 0)) => some (.s [])
  | .t x => some x
  | .z => some (.s [])
  | _ => none
theorem treeC_coe {x : CV} {y : T} (h : treeC x = some y) : CoeC x (.t y) := by
  unfold treeC at h
  split at h
  · injection h with h; subst h; exact CoeC.nil
  · injection h with h; subst h; exact CoeC.refl _
  · injection h with h; subst h; exact CoeC.z
  · cases h
def treeL : List CV → Option (List T)
  | [] => some []
  | x :: t => match treeC x, treeL t with | some y, some l => some (y :: l) | _, _ => none
def treesAV (x : AV) : Option (List T) :=
  match cellsAV x with
  | some l => treeL l
  | none => none
def rowsOf : Nat → List (Nat × AV) → Option (List (List T))
  | _, [] => some []
  | k, (i, x) :: t => if i = k then (match treesAV x, rowsOf (k + 1) t with | some r, some l => some (r :: l) | _, _ => none) else none
theorem treeL_get : ∀ (l : List CV) (r : List T), treeL l = some r → l.length = r.length ∧ ∀ i, i < r.length → CoeC (l.getD i .dead) (.t (r.getD i default)) := by
  intro l
  induction l with
  | nil => intro r h; injection h with h; subst h; exact ⟨rfl, fun i hi => absurd hi (Nat.not_lt_zero _)⟩
  | cons x t ih =>
    intro r h
    unfold treeL at h
    cases hx : treeC x with
    | none => rw [hx] at h; cases h
    | some y =>
      cases ht : treeL t with
      | none => rw [hx, ht] at h; cases h
      | some l =>
        rw [hx, ht] at h
        injection h with h; subst h
        obtain ⟨h1, h2⟩ := ih l ht
        refine ⟨by simp [h1], fun i hi => ?_⟩
        cases i with
        | zero => simpa using treeC_coe hx
        | succ i => simpa using h2 i (by simpa using hi)
theorem crep_t {c : Cx} {H : AHeap} {w : World} {v : Value} {x : T} (h : CRep c H w v (.t x)) : TRep c.A w v x := by cases h; assumption
theorem trees_rep {c : Cx} {H : AHeap} {w : World} {v : Value} {x : AV} {r : List T} (h : VRep c H w v x) (hr : treesAV x = some r) : v.cells.size = r.length ∧ ∀ i, i < r.length → TRep c.A w (v.cells.toList.getD i undef) (r.getD i default) := by
  unfold treesAV at hr
  cases hc : cellsAV x with
  | none => rw [hc] at hr; cases hr
  | some l =>
    rw [hc] at hr
    simp only at hr
    obtain ⟨h1, h2⟩ := treeL_get l r hr
    obtain ⟨g1, g2⟩ := cells_rep h hc
    refine ⟨g1.trans h1, fun i hi => ?_⟩
    exact crep_t (h2 i hi _ _ _ _ (g2 i (by omega)))
/-- the cells of a literal's parts, filled in -/
theorem fill_rows {c : Cx} {w : World} {n : Nat} (hn : 0 < n) : ∀ (parts : List (Nat × Value)) (ps : List (Nat × AV)) (k : Nat) (cells : Array Value) (rows : List (List T)), parts.length = ps.length →
    (∀ i, i < ps.length → (parts.getD i (0, undef)).1 = (ps.getD i (0, .dead)).1 ∧ VRep c H w (parts.getD i (0, undef)).2 (ps.getD i (0, .dead)).2) → rowsOf k ps = some rows → (∀ i, i < rows.length → (rows.getD i []).length = n) → cells.size = (k + rows.length) * n →
    ∃ cells', Instr.fill (fun i => some (i * n, n)) cells parts = some cells' ∧ cells'.size = cells.size ∧ (∀ i, i < k * n → cells'.toList.getD i undef = cells.toList.getD i undef) ∧ ∀ i j, i < rows.length → j < n → TRep c.A w (cells'.toList.getD ((k + i) * n + j) undef) ((rows.getD i []).getD j default) := by
  intro parts
  induction parts with
  | nil =>
    intro ps k cells rows h1 _ h3 _ h5
    have : ps = [] := List.length_eq_zero_iff.1 (by simpa using h1.symm)
    subst this
    injection h3 with h3; subst h3
    exact ⟨cells, rfl, rfl, fun _ _ => rfl, fun i j hi => absurd hi (Nat.not_lt_zero _)⟩
  | cons p t ih =>
    intro ps k cells rows h1 h2 h3 h4 h5
    cases ps with
    | nil => simp at h1
    | cons q u =>
      obtain ⟨i, v⟩ := p
      obtain ⟨i', x⟩ := q
      obtain ⟨e1, e2⟩ := h2 0 (by simp)
      simp at e1 e2
      subst e1
      unfold rowsOf at h3
      split at h3
      · rename_i hik
        subst hik
        cases hr : treesAV x with
        | none => rw [hr] at h3; cases h3
        | some r =>
          cases hl : rowsOf (i + 1) u with
          | none => rw [hr, hl] at h3; cases h3
          | some l =>
            rw [hr, hl] at h3
            injection h3 with h3; subst h3
            obtain ⟨g1, g2⟩ := trees_rep e2 hr
            have hrn : r.length = n := by have := h4 0 (by simp); simpa using this
            have hsz5 : cells.size = (i + 1 + l.length) * n := by rw [h5]; simp; congr 1; omega
            have hbound : i * n + n ≤ cells.size := by
              rw [hsz5, Nat.add_mul, Nat.add_mul, Nat.one_mul]; omega
            unfold Instr.fill
            simp only
            have hsz : ¬ ((decide (v.cells.size ≠ n) || decide (i * n + v.cells.size > cells.size)) = true) := by
              simp only [Bool.or_eq_true, decide_eq_true_eq]
              rw [g1, hrn]; omega
            rw [if_neg hsz]
            have hvl : v.cells.toList.length = n := by simp [g1, hrn]
            have hfold : v.cells.zipIdx.foldl (fun cs (x : Value × Nat) => cs.setIfInBounds (i * n + x.2) x.1) cells = (splice cells.toList (i * n) v.cells.toList).toArray := by
              rw [← Array.foldl_toList, Array.toList_zipIdx]
              apply Array.ext'
              rw [zip_fold (i * n) v.cells.toList 0 cells (by rw [hvl]; omega)]; simp
            have hspl : i * n + v.cells.toList.length ≤ cells.toList.length := by rw [hvl]; simpa using hbound
            obtain ⟨cells', f1, f2, f3, f4⟩ := ih u (i + 1) (splice cells.toList (i * n) v.cells.toList).toArray l (by simpa using h1) (fun j hj => by have := h2 (j + 1) (by simpa using hj); simpa using this) hl (fun j hj => by have := h4 (j + 1) (by simpa using hj); simpa using this) (by
              simp only [List.size_toArray]
              rw [splice_length _ _ _ hspl]; simpa using hsz5)
            refine ⟨cells', by rw [hfold]; exact f1, ?_, fun j hj => ?_, fun j q hj hq => ?_⟩
            · rw [f2]; simp only [List.size_toArray]; rw [splice_length _ _ _ hspl]; simp
            · rw [f3 j (by rw [Nat.add_mul]; omega)]
              simp only
              rw [splice_getD _ _ _ hspl, if_neg (by omega)]
            · cases j with
              | zero =>
                rw [Nat.add_zero, f3 _ (by rw [Nat.add_mul, Nat.one_mul]; omega)]
                simp only
                rw [splice_getD _ _ _ hspl, if_pos (by rw [hvl]; omega)]
                have e : i * n + q - i * n = q := by omega
                rw [e]
                simpa using g2 q (by omega)
              | succ j =>
                have := f4 j q (by simpa using hj) hq
                rw [show i + (j + 1) = i + 1 + j by omega]
                simpa using this
      · cases h3
theorem lit_run {E : Ent} {c : Cx} {w : World} {a : Act} (ty : TypeId) (len : Nat) (parts : List (Nat × Operand)) {e : TypeId} {n bytes : Nat} (hS : SliF P ty e n bytes) {rows : List (List T)} (hr : rowsOf 0 (parts.map fun p => (p.1, ρ p.2)) = some rows) (hl : rows.length = len) (hn : ∀ i, i < rows.length → (rows.getD i []).length = n) (hmax : len * n ≤ 16777216)
    (h : ∀ x ∈ (Op.buildSlice ty len parts.toArray).operands, VRep c H w (a.eval x) (ρ x)) :
    ∃ cs : List Value, cs.length = len * n ∧ (∀ i j, i < rows.length → j < n → TRep c.A w (cs.getD (i * n + j) undef) ((rows.getD i []).getD j default)) ∧
      (execOp a.eval ⟨dst, .buildSlice ty len parts.toArray, ty0, pos, af, g⟩).run P w = .ok (.value (.slice (some ⟨w.heap.size, 0, none⟩) len len)) (w.alloc (.cells cs.toArray e)) := by
  obtain ⟨inf, z, hinf, hz, hsz, hby, hzs⟩ := hS.i
  subst hl
  have hpn := hS.pos
  have hparts : ∀ i, i < (parts.map fun p => (p.1, ρ p.2)).length → ((parts.map fun p => (p.1, a.eval p.2)).getD i (0, undef)).1 = ((parts.map fun p => (p.1, ρ p.2)).getD i (0, .dead)).1 ∧ VRep c H w ((parts.map fun p => (p.1, a.eval p.2)).getD i (0, undef)).2 ((parts.map fun p => (p.1, ρ p.2)).getD i (0, .dead)).2 := fun i hi => by
    have hi' : i < parts.length := by simpa using hi
    simp only [List.getD_eq_getElem?_getD, List.getElem?_map, List.getElem?_eq_getElem hi', Option.map_some, Option.getD_some]
    exact ⟨trivial, h _ (by simp [Op.operands]; exact ⟨_, List.getElem_mem hi'⟩)⟩
  by_cases h0 : rows.length * n = 0
  · have hr0 : rows.length = 0 := by
      rcases Nat.mul_eq_zero.1 h0 with e | e
      · exact e
      · omega
    obtain ⟨cells', f1, f2, _, f4⟩ := fill_rows (c := c) (w := w) (H := H) hpn (parts.map fun p => (p.1, a.eval p.2)) _ 0 #[] rows (by simp) hparts hr hn (by rw [Nat.zero_add, h0]; rfl)
    have hc : cells' = #[] := by apply Array.ext' ; simpa using f2
    subst hc
    refine ⟨[], by simp [hr0], fun i j hi => by omega, ?_⟩
    have hm : (parts.toArray.map fun (i, x) => (i, a.eval x)).toList = parts.map fun p => (p.1, a.eval p.2) := by simp
    have hnot : ¬ (rows.length * n > 2 ^ 24) := by omega
    have hsize : (sizeOf e).run P w = .ok n w := by simp [Go.sizeOf, typeInfo, hinf, hsz]
    have hz0 : ∀ f : Nat → Value, (Array.range (rows.length * n)).map f = #[] := fun f => by rw [h0]; apply Array.ext'; simp
    simp only [execOp, Instr.buildSlice, Sem.run_bind, run_underlying hS.u, Result.andThen_ok, hsize, if_neg hnot, if_pos h0, Sem.run_pure, hm, hz0, f1]
    simp [newRow, newObj, Sem.run, hr0]
  · obtain ⟨cells', f1, f2, _, f4⟩ := fill_rows (c := c) (w := w) (H := H) hpn (parts.map fun p => (p.1, a.eval p.2)) _ 0 ((Array.range (rows.length * n)).map (z.cells[· % z.cells.size]!)) rows (by simp) hparts hr hn (by simp)
    refine ⟨cells'.toList, by simp [f2], fun i j hi hj => by have := f4 i j hi hj; simpa using this, ?_⟩
    have hm : (parts.toArray.map fun (i, x) => (i, a.eval x)).toList = parts.map fun p => (p.1, a.eval p.2) := by simp
    have hnot : ¬ (rows.length * n > 2 ^ 24) := by omega
    have hzero : (zeroValue e).run P w = .ok z w := by simp [zeroValue, typeInfo, hinf, hz]
    have hsize : (sizeOf e).run P w = .ok n w := by simp [Go.sizeOf, typeInfo, hinf, hsz]
    simp only [execOp, Instr.buildSlice, Sem.run_bind, run_underlying hS.u, Result.andThen_ok, hsize, if_neg hnot, if_neg h0, hzero, Sem.run_pure, hm, f1, Array.toArray_toList]
    simp [newRow, newObj, Sem.run]
/-- a literal that is not changed behind -/
theorem step_lit (ty : TypeId) (len : Nat) (parts : List (Nat × Operand)) {e : TypeId} {n bytes : Nat} [hS : Sli P ty e n bytes] {rows : List (List T)} (hr : rowsOf 0 (parts.map fun p => (p.1, ρ p.2)) = some rows) (hl : rows.length = len) (hn : ∀ i, i < rows.length → (rows.getD i []).length = n) (hmax : len * n ≤ 16777216) :
    StepK P .p ⟨dst, .buildSlice ty len parts.toArray, ty0, pos, af, g⟩ ρ H H (.c (.t (.s rows))) :=
  ⟨rfl, fun H2 E c a w K Q hC hx hK => by
    have hF := sli_facts hS.h
    obtain ⟨cs, h1, h2, h3⟩ := lit_run (E := E) (H := H2) (c := c) ty len parts hF hr hl hn hmax hx
    have hg : Grew w (w.alloc (.cells cs.toArray e)) := Grew.of_below ((Below.refl _ _).alloc (Nat.le_refl _) _)
    obtain ⟨k1, k2⟩ := hC.grew hg (fun b i => c.A b i ∨ (b = w.heap.size)) (fun b i h => .inl h) (fun b i h => h.imp id (fun e => ⟨Nat.le_of_eq e.symm, by rw [e]; simp⟩))
    unfold Oper.wp
    rw [h3]
    refine hK _ _ _ k1 k2 (.c (.t ?_))
    subst hl
    have hpn := hF.pos
    refine .s w.heap.size 0 rows.length n rows (fun i j => cs.getD (i * n + j) undef) (Nat.le_refl _) ?_ hn (fun i j hi hj => ⟨.inr rfl, ?_⟩) (fun i j hi hj => (h2 i j hi hj).mono k2.cell)
    · unfold maxLen
      have : rows.length * 1 ≤ rows.length * n := Nat.mul_le_mul_left _ hpn
      omega
    · have hlt : i * n + j < cs.length := by
        rw [h1]
        have : (i + 1) * n ≤ rows.length * n := Nat.mul_le_mul_right _ hi
        rw [Nat.add_mul, Nat.one_mul] at this
        omega
      rw [Nat.zero_add, World.cell?_alloc_at _ _ _ _ rfl]
      simp [List.getD_eq_getElem?_getD, hlt]⟩
/-- a row of the call's own, in memory -/
theorem Conc.newRow {E : Ent} {c : Cx} {w : World} (hC : Conc E c H w) (k : Nat) (hk : hget H k = none) (e : TypeId) (n : Nat) (hpn : 0 < n) (rows : List (List T)) (cs : List Value) (h1 : cs.length = rows.length * n) (hmax : rows.length ≤ maxLen) (hn : ∀ i, i < rows.length → (rows.getD i []).length = n)
    (h2 : ∀ i j, i < rows.length → j < n → TRep c.A w (cs.getD (i * n + j) undef) ((rows.getD i []).getD j default)) :
    ∃ c', Conc E c' (hset H k (.row e n rows)) (w.alloc (.cells cs.toArray e)) ∧ Later c H w c' (hset H k (.row e n rows)) (w.alloc (.cells cs.toArray e)) ∧ CRep c' (hset H k (.row e n rows)) (w.alloc (.cells cs.toArray e)) (.slice (some ⟨w.heap.size, 0, none⟩) rows.length rows.length) (.own k rows.length) := by
  obtain ⟨g1, g2⟩ := hC.fresh k hk (.row e n rows) (.slice (some ⟨w.heap.size, 0, none⟩) rows.length rows.length) cs.toArray e (fun b hb => blk_sl hb) (fun hlat =>
    ⟨hpn, cs, by
      have := World.ownsRow_lit (e := e) (size := n) (base := 0) w cs.toArray rows.length (Nat.zero_le _) hmax (by simpa using h1)
      exact Owns.of (b := 0) (by simpa using this), fun i hi => ⟨hn i hi, fun j hj => (h2 i j hi hj).mono hlat.cell⟩, fun b hb i hA => by
        have hb' : b = w.heap.size := by
          have : blk (if k = k then Value.slice (some ⟨w.heap.size, 0, none⟩) rows.length rows.length else c.m k) = some b := hb
          rw [if_pos rfl] at this; exact blk_sl this
        have := hC.lt _ _ hA; omega⟩)
  exact ⟨_, g1, g2, .own (by rw [hget_hset, if_pos rfl]) rfl (Nat.le_refl _) (fun _ => (if_pos rfl).symm)⟩
/-- a row in a new block with room behind -/
theorem Conc.bornRow {E : Ent} {c : Cx} {w : World} (hC : Conc E c H w) (k : Nat) (e : TypeId) (n : Nat) (hpn : 0 < n) (rows : List (List T)) (h0 : 0 < rows.length) (hk : hget H k = none ∨ (hget H k = some (.row e n []) ∧ blk (c.m k) = none)) (CC : Array Value) (cap : Nat) (hcap : rows.length ≤ cap) (hmax : cap ≤ maxLen) (hsz : CC.size = cap * n) (hn : ∀ i, i < rows.length → (rows.getD i []).length = n)
    (vs : Nat → Nat → Value) (hcc : ∀ i j, i < rows.length → j < n → CC[i * n + j]? = some (vs i j)) (h2 : ∀ i j, i < rows.length → j < n → TRep c.A w (vs i j) ((rows.getD i []).getD j default)) :
    ∃ c', Conc E c' (hset H k (.row e n rows)) (w.alloc (.cells CC e)) ∧ Later c H w c' (hset H k (.row e n rows)) (w.alloc (.cells CC e)) ∧ CRep c' (hset H k (.row e n rows)) (w.alloc (.cells CC e)) (.slice (some ⟨w.heap.size, 0, none⟩) rows.length cap) (.own k rows.length) := by
  obtain ⟨cap, rfl⟩ : ∃ q, cap = q + 1 := ⟨cap - 1, by omega⟩
  obtain ⟨g1, g2⟩ := hC.fresh0 k (.row e n rows) (fun o' ho' => by
      rcases hk with hk | ⟨hk, hb⟩
      · rw [hk] at ho'; cases ho'
      · rw [hk] at ho'; injection ho' with ho'
        exact ⟨hb, e, n, [], rows, ho'.symm, rfl, h0⟩) (.slice (some ⟨w.heap.size, 0, none⟩) rows.length (cap + 1)) CC e (fun b hb => blk_sl hb) (fun hlat =>
    ⟨hpn, CC.toList.take (rows.length * n), .inr ⟨w.heap.size, cap, CC, if_pos rfl, heap_new w _, hcap, hmax, hsz, rfl⟩, fun i hi => ⟨hn i hi, fun j hj => by
        have hlt : i * n + j < rows.length * n := by
          have : (i + 1) * n ≤ rows.length * n := Nat.mul_le_mul_right _ hi
          rw [Nat.add_mul, Nat.one_mul] at this
          omega
        have e1 : (CC.toList.take (rows.length * n)).getD (i * n + j) undef = vs i j := by
          have := hcc i j hi hj
          rw [List.getD_eq_getElem?_getD, List.getElem?_take, if_pos hlt]
          rw [Array.getElem?_toList, this]; rfl
        rw [e1]
        exact (h2 i j hi hj).mono hlat.cell⟩, fun b hb i hA => by
        have hb' : b = w.heap.size := by
          have : blk (if k = k then Value.slice (some ⟨w.heap.size, 0, none⟩) rows.length (cap + 1) else c.m k) = some b := hb
          rw [if_pos rfl] at this; exact blk_sl this
        have := hC.lt _ _ hA; omega⟩)
  exact ⟨_, g1, g2, .own (by rw [hget_hset, if_pos rfl]) rfl (Nat.le_refl _) (fun _ => (if_pos rfl).symm)⟩
/-- a literal that will grow, or be written -/
theorem step_lit_own (k : Nat) (ty : TypeId) (len : Nat) (parts : List (Nat × Operand)) {e : TypeId} {n bytes : Nat} [hS : Sli P ty e n bytes] (hk : hget H k = none) {rows : List (List T)} (hr : rowsOf 0 (parts.map fun p => (p.1, ρ p.2)) = some rows) (hl : rows.length = len) (hn : ∀ i, i < rows.length → (rows.getD i []).length = n) (hmax : len * n ≤ 16777216) :
    StepK P .w ⟨dst, .buildSlice ty len parts.toArray, ty0, pos, af, g⟩ ρ H (hset H k (.row e n rows)) (.c (.own k rows.length)) := by
  intro E c a w K Q hC hx hK
  have hF := sli_facts hS.h
  obtain ⟨cs, h1, h2, h3⟩ := lit_run (E := E) (H := H) (c := c) ty len parts hF hr hl hn hmax hx
  have hpn := hF.pos
  subst hl
  have hm : rows.length ≤ maxLen := by
    unfold maxLen
    have : rows.length * 1 ≤ rows.length * n := Nat.mul_le_mul_left _ hpn
    omega
  obtain ⟨c', g1, g2, g3⟩ := hC.newRow k hk e n hpn rows cs h1 hm hn h2
  unfold Oper.wp
  rw [h3]
  exact hK _ c' _ g1 g2 (.c g3)
/-- make -/
theorem step_make (k : Nat) (ty : TypeId) (x y : Operand) {e : TypeId} {n bytes : Nat} [hS : Sli P ty e n bytes] {z : List Value} [hZ : Zro P e z] (hk : hget H k = none) {len : Nat} {k1 k2 : IntKind} (hx : ρ x = .c (.t (.v (.int k1 len)))) (hy : ρ y = .c (.t (.v (.int k2 len)))) (hmax : len ≤ 1000000000) (hbytes : bytes ≤ 1000) :
    StepK P .w ⟨dst, .makeSlice ty x y, ty0, pos, af, g⟩ ρ H (hset H k (.row e n (List.replicate len (z.map .v)))) (.c (.own k len)) := by
  intro E c a w K Q hC hxx hK
  have hF := sli_facts hS.h
  obtain ⟨inf, zv, hinf, hz, hsz, hby, hzs⟩ := hF.i
  have ex := exAV_eq (hx ▸ hxx x (by simp [Op.operands])) (y := .int k1 len) rfl
  have ey := exAV_eq (hy ▸ hxx y (by simp [Op.operands])) (y := .int k2 len) rfl
  have hzl : zv.cells.toList = z := by
    have := hZ.h
    rw [hinf] at this
    simpa [hz] using this
  have hb : (inf.bytes : Int) * (len : Int) ≤ 281474976710656 := by
    rw [hby]
    have h1 : ((bytes * len : Nat) : Int) ≤ ((1000 * 1000000000 : Nat) : Int) := by exact_mod_cast Nat.mul_le_mul hbytes hmax
    rw [Int.natCast_mul] at h1
    omega
  have hr := run_make (P := P) w ty e inf zv hF.u hinf hz k1 k2 len len (by omega) (Int.le_refl _) hb (by omega)
  simp only [Int.toNat_natCast] at hr
  have hlen : (List.replicate len (z.map T.v)).length = len := by simp
  obtain ⟨c', g1, g2, g3⟩ := hC.newRow k hk e n hF.pos (List.replicate len (z.map .v)) (madeCells zv.cells (len * inf.size)).toList (by simp [size_madeCells, hsz]) (by rw [hlen]; unfold maxLen; omega) (fun i hi => by
      rw [hlen] at hi
      simp [List.getD_eq_getElem?_getD, hi, ← hzl, hzs]) (fun i j hi hj => by
      rw [hlen] at hi
      have hlt : i * n + j < len * inf.size := by
        rw [hsz]
        have : (i + 1) * n ≤ len * n := Nat.mul_le_mul_right _ hi
        rw [Nat.add_mul, Nat.one_mul] at this
        omega
      have e1 : (madeCells zv.cells (len * inf.size)).toList.getD (i * n + j) undef = z.getD j undef := by
        unfold madeCells
        have hmod : (i * n + j) % zv.cells.size = j := by rw [hzs, Nat.add_comm, Nat.add_mul_mod_self_right]; exact Nat.mod_eq_of_lt hj
        simp only [List.getD_eq_getElem?_getD, Array.getElem?_toList, Array.getElem?_map]
        rw [Array.getElem?_range]
        simp [hlt, hmod, ← hzl]
        have : j < zv.cells.size := by omega
        simp [this]
      rw [e1]
      have hjz : j < z.length := by rw [← hzl]; simpa [hzs] using hj
      simp only [List.getD_eq_getElem?_getD, List.getElem?_replicate, hi, if_true, Option.getD_some, List.getElem?_map, List.getElem?_eq_getElem hjz, Option.map_some]
      exact .v _ (List.all_eq_true.1 hZ.one _ (List.getElem_mem hjz)))
  unfold Oper.wp
  simp only [execOp, ex, ey, Sem.run_bind, hr, Result.andThen_ok, Sem.run_pure]
  simp only [hlen, Array.toArray_toList] at g1 g2 g3
  exact hK _ c' _ g1 g2 (.c g3)
end
end Go.Proofs.Ytiimkhnngpfnbaa.Fx
/- Rows of the call's own: grown, read, written, let go; calls; the rule for a function. No program in sight. -/
namespace Go.Proofs.Ytiimkhnngpfnbaa.Fx
open Go.RowKit
set_option linter.unusedVariables false
set_option linter.unusedSimpArgs false
section
variable {P : Program} {dst : Option Tmp} {ty0 : TypeId} {pos : String} {af : Array Edge} {g : Option (Nat × Bool)} {ρ : Operand → AV} {H : AHeap}
theorem cown {c : Cx} {H : AHeap} {w : World} {v : Value} {k len : Nat} {e : TypeId} {n : Nat} {rows : List (List T)} (h : VRep c H w v (.c (.own k len))) (ho : hget H k = some (.row e n rows)) (hl : len = rows.length) : v = c.m k := by
  cases h with
  | c h => cases h with
    | own ho' h1 h2 h3 => rw [ho] at ho'; injection ho' with ho'; injection ho' with _ _ e3; subst e3; exact h3 hl
theorem oblk {v : Value} {w : World} {base e n m : Nat} {xs : List Value} (h : w.ownsRow base e n v m xs) (hm : 0 < m) : blk v = v.ownBlock := by
  rcases h.2 with ⟨rfl, _⟩ | ⟨g, cap, cur, rfl, _, _, h3, _⟩
  · rfl
  · cases cap with
    | zero => omega
    | succ cap => rfl
theorem flat_getD {n : Nat} : ∀ (f : Nat → Nat → Value) (m : Nat) (i j : Nat), i < m → j < n → (((List.range m).map fun i => (List.range n).map fun j => f i j).flatten).getD (i * n + j) undef = f i j := by
  intro f m i j hi hj
  have key : ∀ (l : List Nat) (i : Nat), i < l.length → ((l.map fun i => (List.range n).map fun j => f i j).flatten).getD (i * n + j) undef = f (l.getD i 0) j := by
    intro l
    induction l with
    | nil => intro i hi; simp at hi
    | cons x t ih =>
      intro i hi
      rw [List.map_cons, List.flatten_cons]
      simp only [List.getD_eq_getElem?_getD] at ih ⊢
      cases i with
      | zero =>
        rw [Nat.zero_mul, Nat.zero_add, List.getElem?_append_left (by simp; exact hj)]
        simp [hj]
      | succ i =>
        rw [List.getElem?_append_right (by simp [Nat.add_mul]; omega)]
        have e : (i + 1) * n + j - ((List.range n).map fun j => f x j).length = i * n + j := by simp [Nat.add_mul]; omega
        rw [e, ih i (by simpa using hi)]
        simp
  have := key (List.range m) i (by simpa using hi)
  rw [this]
  simp [hi]
theorem flat_length {n : Nat} (f : Nat → Nat → Value) (m : Nat) : (((List.range m).map fun i => (List.range n).map fun j => f i j).flatten).length = m * n := by
  rw [List.length_flatten]
  have key : ∀ l : List Nat, (l.map fun _ => n).sum = l.length * n := by
    intro l
    induction l with
    | nil => simp
    | cons x t ih => rw [List.map_cons, List.sum_cons, ih, List.length_cons, Nat.add_mul]; omega
  simp only [List.map_map, Function.comp_def, List.length_map, List.length_range]
  rw [key]; simp
/-- what an append comes to -/
theorem Conc.grownRow {E : Ent} {c : Cx} {w w' : World} (hC : Conc E c H w) {k : Nat} {e : TypeId} {n : Nat} {rows more : List (List T)} (ho : hget H k = some (.row e n rows)) (v' : Value) (xs news : List Value) (hx : w.ownsRow 0 e n (c.m k) rows.length xs) (hbk : blk (c.m k) = (c.m k).ownBlock)
    (hown : w'.ownsRow 0 e n v' (rows.length + more.length) (xs ++ news)) (hg : w.grownBy w' (c.m k).ownBlock) (hat : ∀ b, v'.ownBlock = some b → (c.m k).ownBlock = some b ∨ b = w.heap.size) (hnew : news.length = more.length * n) (hm : 0 < more.length)
    (hn : ∀ i, i < more.length → (more.getD i []).length = n) (hr : ∀ i j, i < more.length → j < n → TRep c.A w (news.getD (i * n + j) undef) ((more.getD i []).getD j default)) :
    ∃ c', Conc E c' (hset H k (.row e n (rows ++ more))) w' ∧ Later c H w c' (hset H k (.row e n (rows ++ more))) w' ∧ CRep c' (hset H k (.row e n (rows ++ more))) w' v' (.own k (rows.length + more.length)) := by
  have h0 := hC.obj k _ ho
  have hnA : ∀ b, (c.m k).ownBlock = some b → ∀ i, ¬ c.A b i := fun b hb i => h0.noA (by rw [hbk]; exact hb) i
  have hblock : ∀ b, b < w.heap.size → (c.m k).ownBlock ≠ some b → w'.heap[b]? = w.heap[b]? := fun b h1 h2 => hg.block b h1 (fun e => h2 e.symm)
  have hcell : ∀ b i v, c.A b i → w.cell? ⟨b, i, none⟩ = some v → c.A b i ∧ w'.cell? ⟨b, i, none⟩ = some v := fun b i v h1 h2 => by
    refine ⟨h1, ?_⟩
    rw [World.cell?_of_block (w := w) (a := ⟨b, i, none⟩) (hblock b (hC.lt b i h1) (fun e => hnA b e i h1))]; exact h2
  have hlat : Later c H w ⟨fun j => if j = k then v' else c.m j, c.A⟩ (hset H k (.row e n (rows ++ more))) w' := by
    refine ⟨fun j t cl h => ?_, fun j t n' rows' h => ?_, hcell⟩
    · by_cases e1 : k = j
      · subst e1; rw [ho] at h; cases h
      · exact ⟨cl, by rw [hget_hset, if_neg e1]; exact h, if_neg (fun x => e1 x.symm)⟩
    · by_cases e1 : k = j
      · subst e1; rw [ho] at h; injection h with h; injection h with a1 a2 a3; subst a1; subst a2; subst a3
        exact ⟨rows ++ more, by rw [hget_hset, if_pos rfl], .inr (by simp; omega)⟩
      · exact ⟨rows', by rw [hget_hset, if_neg e1]; exact h, .inl ⟨rfl, if_neg (fun x => e1 x.symm)⟩⟩
  have hv' := oblk hown (by omega)
  have hlt' : ∀ b, v'.ownBlock = some b → b < w'.heap.size := fun b hb => by
    rcases hown.2 with ⟨e, _⟩ | ⟨g, cap, cur, e, _, h2, _⟩
    · rw [e] at hb; cases hb
    · rw [e] at hb; injection hb with hb; subst hb; exact lt_of_heap h2
  have hnA' : ∀ b, v'.ownBlock = some b → ∀ i, ¬ c.A b i := fun b hb i hA => by
    rcases hat b hb with h | h
    · exact hnA b h i hA
    · have := hC.lt _ _ hA; omega
  obtain ⟨hpn, xs', hx', hrr, _⟩ := h0
  have hxx : xs' = xs := by
    have h1 := hx'
    have h2 := hx
    rcases h1 with ⟨a, _, z1, z2⟩ | ⟨g, cap, cur, q, hg1, _, _, _, ht⟩
    · have l2 := h2.1
      rw [z1, Nat.zero_mul] at l2
      rw [z2, List.length_eq_zero_iff.1 l2]
    · rcases h2 with ⟨l2, ⟨q', _⟩ | ⟨g', cap', cur', q', _, hg1', _, _, _, ht'⟩⟩
      · rw [q] at q'; cases q'
      · rw [q] at q'
        simp only [Value.slice.injEq, Option.some.injEq, Addr.mk.injEq] at q'
        obtain ⟨⟨rfl, _⟩, _⟩ := q'
        rw [hg1] at hg1'
        injection hg1' with hg1'
        injection hg1' with hg1' _ _
        subst hg1'
        rw [← ht, ← ht']
  subst hxx
  have hxl := hx'.len
  refine ⟨⟨fun j => if j = k then v' else c.m j, c.A⟩, ⟨fun j o h => ?_, fun j j' b h h' hb1 hb2 => ?_, fun b i h => Nat.lt_of_lt_of_le (hC.lt b i h) hg.size, hC.ent, hC.le, hC.new, fun j b h hb1 => ?_, fun b h1 h2 => ?_, hg.os.trans hC.os, hg.tape.trans hC.tape, hg.output.trans hC.output, Nat.le_trans hC.size hg.size, hC.pin.step hlat⟩, hlat, .own (by rw [hget_hset, if_pos rfl]) (ownsRow_one hown) (by simp) (fun _ => (if_pos rfl).symm)⟩
  · rw [hget_hset] at h
    by_cases e1 : k = j
    · rw [if_pos e1] at h; injection h with h; subst h; subst e1
      refine ⟨hpn, xs' ++ news, ?_, fun i hi => ?_, fun b hb i => ?_⟩
      · simp only [if_true, List.length_append]; exact Owns.of hown
      · rw [List.length_append] at hi
        have e3 : (rows ++ more).getD i [] = if i < rows.length then rows.getD i [] else more.getD (i - rows.length) [] := by
          simp only [List.getD_eq_getElem?_getD]
          split
          · rename_i h2; rw [List.getElem?_append_left h2]
          · rename_i h2; rw [List.getElem?_append_right (by omega)]
        rw [e3]
        by_cases h2 : i < rows.length
        · rw [if_pos h2]
          refine ⟨(hrr i h2).1, fun j hj => ?_⟩
          have hlt : i * n + j < xs'.length := by
            rw [hxl]
            have : (i + 1) * n ≤ rows.length * n := Nat.mul_le_mul_right _ h2
            rw [Nat.add_mul, Nat.one_mul] at this
            omega
          have e4 : (xs' ++ news).getD (i * n + j) undef = xs'.getD (i * n + j) undef := by
            simp only [List.getD_eq_getElem?_getD]; rw [List.getElem?_append_left hlt]
          rw [e4]
          exact ((hrr i h2).2 j hj).mono hcell
        · rw [if_neg h2]
          refine ⟨hn _ (by omega), fun j hj => ?_⟩
          have e4 : (xs' ++ news).getD (i * n + j) undef = news.getD ((i - rows.length) * n + j) undef := by
            simp only [List.getD_eq_getElem?_getD]
            have hle : rows.length * n ≤ i * n := Nat.mul_le_mul_right _ (by omega)
            rw [List.getElem?_append_right (by rw [hxl]; omega), hxl, Nat.sub_mul]
            congr 2
            omega
          rw [e4]
          exact (hr _ j (by omega) hj).mono hcell
      · have hb' : blk (if k = k then v' else c.m k) = some b := hb
        rw [if_pos rfl, hv'] at hb'
        exact hnA' b hb' i
    · rw [if_neg e1] at h
      have h1 := hC.obj j o h
      refine h1.later hlat (if_neg (fun x => e1 x.symm)) (fun b hb => hblock b (h1.blk_lt hb) (fun e2 => ?_)) (fun b i hb => h1.noA hb i)
      exact e1 (hC.inj k j b (by rw [ho]; simp) (by rw [h]; simp) (by rw [hbk]; exact e2) hb)
  · have key : ∀ j, hget (hset H k (.row e n (rows ++ more))) j ≠ none → j ≠ k → blk (if j = k then v' else c.m j) = some b → hget H j ≠ none ∧ blk (c.m j) = some b ∧ b < w.heap.size := fun j h1 h2 h3 => by
      rw [hget_hset, if_neg (Ne.symm h2)] at h1
      rw [if_neg h2] at h3
      cases ho' : hget H j with
      | none => exact absurd ho' h1
      | some o' => exact ⟨by simp, h3, (hC.obj j o' ho').blk_lt h3⟩
    have hkk : ∀ j, hget (hset H k (.row e n (rows ++ more))) j ≠ none → j ≠ k → blk (if j = k then v' else c.m j) = some b → v'.ownBlock = some b → False := fun j h1 h2 h3 h4 => by
      obtain ⟨a1, a2, a3⟩ := key j h1 h2 h3
      rcases hat b h4 with h5 | h5
      · exact h2 (hC.inj j k b a1 (by rw [ho]; simp) a2 (by rw [hbk]; exact h5))
      · omega
    by_cases e1 : j = k <;> by_cases e2 : j' = k
    · rw [e1, e2]
    · have h3 : blk (if j = k then v' else c.m j) = some b := hb1
      rw [if_pos e1, hv'] at h3
      exact (hkk j' h' e2 hb2 h3).elim
    · have h3 : blk (if j' = k then v' else c.m j') = some b := hb2
      rw [if_pos e2, hv'] at h3
      exact (hkk j h e1 hb1 h3).elim
    · have h1 := key j h e1 hb1
      have h2 := key j' h' e2 hb2
      exact hC.inj j j' b h1.1 h2.1 h1.2.1 h2.2.1
  · by_cases e1 : j = k
    · have h3 : blk (if j = k then v' else c.m j) = some b := hb1
      rw [if_pos e1, hv'] at h3
      rcases hat b h3 with h4 | h4
      · exact hC.own k b (by rw [ho]; simp) (by rw [hbk]; exact h4)
      · right; rw [h4]; exact hC.size
    · rw [hget_hset, if_neg (Ne.symm e1)] at h
      have h3 : blk (if j = k then v' else c.m j) = some b := hb1
      rw [if_neg e1] at h3
      exact hC.own j b h h3
  · rw [hblock b (Nat.lt_of_lt_of_le h1 hC.size) (fun e2 => ?_)]
    · exact hC.keep b h1 h2
    · rcases hC.own k b (by rw [ho]; simp) (by rw [hbk]; exact e2) with h4 | h4
      · exact h2 h4
      · omega
theorem hset_same : ∀ (H : AHeap) (k : Nat) (o : AObj), hget H k = some o → hset H k o = H := by
  intro H
  induction H with
  | nil => intro k o h; cases h
  | cons p t ih =>
    intro k o h
    obtain ⟨q, u⟩ := p
    unfold hget at h
    unfold hset
    by_cases e : q = k
    · rw [if_pos e] at h ⊢; injection h with h; rw [h, e]
    · rw [if_neg e] at h ⊢; rw [ih k o h]
/-- append of something to what has no room: a new block -/
theorem zgrow (w : World) (ad : Option Addr) (ty : TypeId) {e : TypeId} {n bytes : Nat} {inf : TypeInfo} {z : Value} (hu : P.underlying ty = some (.slice e)) (hinf : P.info? e = some inf) (hz : inf.zero = some z) (hsz : inf.size = n) (hby : inf.bytes = bytes) (hzs : z.cells.size = n) (hpn : 0 < n) {m : Nat} (hmax : m ≤ 1000000000) (hbytes : bytes ≤ 1000) (h0 : 0 < m)
    {A : Nat → Nat → Prop} {b off cap : Nat} (vs : Nat → Nat → Value) (gc : ∀ i j, i < m → j < n → A b (off + i * n + j) ∧ w.cell? ⟨b, off + i * n + j, none⟩ = some (vs i j)) (gr : ∀ i j, i < m → j < n → (vs i j).oneCell' = true) :
    ∃ (CC : Array Value) (cp : Nat), (Builtin.append_ #[ty, ty] ty0 #[.slice ad 0 0, .slice (some ⟨b, off, none⟩) m cap]).run P w = .ok (.slice (some ⟨w.heap.size, 0, none⟩) m cp) (w.drew.alloc (.cells CC e)) ∧ m ≤ cp ∧ cp ≤ maxLen ∧ CC.size = cp * n ∧ ∀ i j, i < m → j < n → CC[i * n + j]? = some (vs i j) := by
  have hnews : ∀ j u, (((List.range m).map fun i => (List.range n).map fun j => vs i j).flatten)[j]? = some u → w.cell? ((⟨b, off, none⟩ : Addr).add j) = some u := fun j u hu => by
    have hj : j < m * n := by
      rw [← flat_length (n := n) vs]
      rcases Nat.lt_or_ge j (((List.range m).map fun i => (List.range n).map fun j => vs i j).flatten).length with h | h
      · exact h
      · rw [List.getElem?_eq_none h] at hu; cases hu
    have hi : j / n < m := Nat.div_lt_of_lt_mul (by rw [Nat.mul_comm]; exact hj)
    have hq : j % n < n := Nat.mod_lt _ hpn
    have e1 : j / n * n + j % n = j := by rw [Nat.mul_comm]; exact Nat.div_add_mod j n
    have e2 := flat_getD (n := n) vs m (j / n) (j % n) hi hq
    rw [e1, List.getD_eq_getElem?_getD, hu] at e2
    simp only [Option.getD_some] at e2
    rw [add_plain, ← e1, ← Nat.add_assoc, (gc _ _ hi hq).2, e2]
  have hone : ∀ u ∈ (((List.range m).map fun i => (List.range n).map fun j => vs i j).flatten), u.oneCell' = true := fun u hu => by
    obtain ⟨l, hl1, hl2⟩ := List.mem_flatten.1 hu
    obtain ⟨i, hi, rfl⟩ := List.mem_map.1 hl1
    obtain ⟨j, hj, rfl⟩ := List.mem_map.1 hl2
    exact gr i j (by simpa using hi) (by simpa using hj)
  have hs : Src P inf.size ty (.slice (some ⟨b, off, none⟩) m cap) m (((List.range m).map fun i => (List.range n).map fun j => vs i j).flatten) w := Src.ofSlice w hu _ _ _ _ (by rw [hsz]; exact flat_length vs _) hnews hone
  have hf : (Builtin.firstCells inf.size 0 (.slice ad 0 0)).run P w.drew = .ok ([] : List Value).toArray w.drew := by
    cases ad with
    | none => exact run_firstCells_none w.drew _ _ _ _
    | some ad' => exact run_firstCells_some w.drew _ _ ad' _ _ [] (by simp) (by simp)
  have hnc : Builtin.nextslicecap (0 + m) 0 = 0 + m := by unfold Builtin.nextslicecap; rw [if_pos (by omega)]
  have hfit : Builtin.nextslicecap (0 + m) 0 * inf.bytes ≤ 281474976710656 := by
    rw [hnc, hby, Nat.zero_add]
    exact Nat.le_trans (Nat.mul_le_mul hmax hbytes) (by decide)
  have hrun := run_append_grow_src (P := P) w ty ty ty0 e inf z hu hinf hz ad 0 0 [] hf _ m _ hs (by omega) (by omega) hfit
  have hge := grownCap_ge w (0 + m) 0 e
  have hle := grownCap_le_maxLen w (0 + m) 0 e (by unfold maxLen; omega)
  rw [Nat.zero_add] at hge hle hrun
  refine ⟨_, _, hrun, hge, hle, ?_, fun i j hi hj => ?_⟩
  · simp only [List.nil_append, Array.size_append, List.size_toArray]
    rw [size_zeroCells, flat_length, hzs, ← Nat.add_mul]
    congr 1
    omega
  · have hlt : i * n + j < m * n := by
      have : (i + 1) * n ≤ m * n := Nat.mul_le_mul_right _ hi
      rw [Nat.add_mul, Nat.one_mul] at this
      omega
    have e2 := flat_getD (n := n) vs m i j hi hj
    rw [List.nil_append, Array.getElem?_append_left (by simp only [List.size_toArray]; rw [flat_length]; exact hlt)]
    rw [List.getD_eq_getElem?_getD] at e2
    rw [List.getElem?_toArray]
    rcases h9 : (((List.range m).map fun i => (List.range n).map fun j => vs i j).flatten)[i * n + j]? with _ | u
    · rw [List.getElem?_eq_none_iff, flat_length] at h9; omega
    · rw [h9] at e2; simp only [Option.getD_some] at e2; rw [e2]
/-- append of a slice behind a row of the call's own -/
theorem step_append (s x : Operand) (ty : TypeId) {e : TypeId} {n bytes : Nat} [hS : Sli P ty e n bytes] {k len : Nat} {rows more : List (List T)} (hs : ρ s = .c (.own k len)) (ho : hget H k = some (.row e n rows)) (hl : len = rows.length) (hx : ρ x = .c (.t (.s more))) (hn : ∀ i, i < more.length → (more.getD i []).length = n)
    (hmax : rows.length + more.length ≤ 1000000000) (hbytes : bytes ≤ 1000) :
    StepK P .w ⟨dst, .call { callee := .builtin .append, args := #[s, x], argTypes := #[ty, ty] }, ty0, pos, af, g⟩ ρ H (hset H k (.row e n (rows ++ more))) (.c (.own k (rows.length + more.length))) := by
  intro E c a w K Q hC hxx hK
  have hF := sli_facts hS.h
  obtain ⟨inf, z, hinf, hz, hsz, hby, hzs⟩ := hF.i
  have hsv := hxx s (by simp [Op.operands, Call.operands])
  rw [hs] at hsv
  have es := cown hsv ho hl
  have hxv := hxx x (by simp [Op.operands, Call.operands])
  rw [hx] at hxv
  obtain ⟨hpn, xs, hrow0, hrr, _⟩ := hC.obj k _ ho
  have hbound : (rows.length + more.length) * bytes ≤ 140737488355328 := Nat.le_trans (Nat.mul_le_mul hmax hbytes) (by decide)
  rcases hrow0 with ⟨az, ez, e0, _⟩ | ⟨g, cp, cur, eg, hg1, hg2, hg3, hg4, hg5⟩
  · obtain rfl : rows = [] := List.length_eq_zero_iff.1 e0
    have hbz : blk (c.m k) = none := by rw [ez]; cases az <;> rfl
    rw [ez] at es
    simp only [List.nil_append, List.length_nil, Nat.zero_add] at hK hmax ⊢
    have hnil : more = [] → (∀ cap2 ad2, a.eval x = .slice ad2 0 cap2 → Oper.wp P ⟨dst, .call { callee := .builtin .append, args := #[s, x], argTypes := #[ty, ty] }, ty0, pos, af, g⟩ a w K Q) := fun hm cap2 ad2 hval => by
      subst hm
      have hrun : (Builtin.append_ #[ty, ty] ty0 #[.slice az 0 0, .slice ad2 0 cap2]).run P w = .ok (.slice az 0 0) w := by
        cases az <;> cases ad2 <;> simp [Builtin.append_, run_underlying hF.u, Go.sizeOf, typeInfo, hinf, Builtin.lenOf, Builtin.firstCells, loadCells, loadCellsFrom, storeCells]
      unfold Oper.wp execOp
      simp only [resolve, invoke, builtin, Sem.run_bind, Sem.run_pure, Result.andThen_ok, List.map_toArray, List.map_cons, List.map_nil, es, hval, hrun]
      show K _ w
      rw [hset_same H k _ ho] at hK
      exact hK _ c w hC (Later.refl _ _ _) (.c (.own ho rfl (Nat.le_refl _) (fun _ => ez.symm)))
    generalize hval : a.eval x = val at hxv
    cases hxv with
    | c hxv => cases hxv with
      | t hxv =>
        cases hxv with
        | e ad cap => exact hnil rfl cap ad hval
        | s b off cap n' rows' vs g1 g2 gn gc gr =>
          by_cases h0 : more.length = 0
          · have hm : more = [] := List.length_eq_zero_iff.1 h0
            exact hnil hm cap (some ⟨b, off, none⟩) (by rw [hval, h0])
          · have hnn : n' = n := by rw [← gn 0 (by omega)]; exact hn 0 (by omega)
            subst hnn
            obtain ⟨CC, cp, z1, z2, z3, z4, z5⟩ := zgrow (P := P) (ty0 := ty0) w az ty hF.u hinf hz hsz hby hzs hpn hmax hbytes (by omega) vs gc (fun i j hi hj => (gr i j hi hj).one) (cap := cap)
            obtain ⟨hC2, hl2⟩ := hC.drew (w' := w.drew) rfl rfl rfl rfl
            obtain ⟨c', k1, k2, k3⟩ := hC2.bornRow k e n' hpn more (by omega) (.inr ⟨ho, hbz⟩) CC cp z2 z3 z4 gn vs z5 (fun i j hi hj => (gr i j hi hj).mono hl2.cell)
            unfold Oper.wp execOp
            simp only [resolve, invoke, builtin, Sem.run_bind, Sem.run_pure, Result.andThen_ok, List.map_toArray, List.map_cons, List.map_nil, es, hval, z1]
            exact hK _ c' _ k1 (hl2.trans k2) (.c k3)
  have hrow : w.ownsRow 0 e n (c.m k) rows.length xs := ⟨(show Owns w e n (c.m k) rows.length xs from .inr ⟨g, cp, cur, eg, hg1, hg2, hg3, hg4, hg5⟩).len, .inr ⟨g, cp + 1, cur, eg, Nat.zero_le _, hg1, hg2, hg3, hg4, hg5⟩⟩
  have hbk : blk (c.m k) = (c.m k).ownBlock := by rw [eg]; rfl
  generalize hval : a.eval x = val at hxv
  cases hxv with
  | c hxv => cases hxv with
    | t hxv =>
      cases hxv with
      | e ad cap =>
        have hrun : (Builtin.append_ #[ty, ty] ty0 #[c.m k, .slice ad 0 cap]).run P w = .ok (c.m k) w := by
          rcases hrow.2 with ⟨e1, e2⟩ | ⟨g', cap', cur, e1, _, _, hnc, _⟩
          · rw [e1]; cases ad <;> simp [Builtin.append_, run_underlying hF.u, Go.sizeOf, typeInfo, hinf, Builtin.lenOf, Builtin.firstCells, loadCells, loadCellsFrom]
          · rw [e1]; cases ad <;> simp [Builtin.append_, run_underlying hF.u, Go.sizeOf, typeInfo, hinf, Builtin.lenOf, Builtin.firstCells, loadCells, loadCellsFrom, hnc, storeCells]
        unfold Oper.wp execOp
        simp only [resolve, invoke, builtin, Sem.run_bind, Sem.run_pure, Result.andThen_ok, List.map_toArray, List.map_cons, List.map_nil, es, hval, hrun]
        show K _ w
        simp only [List.append_nil, List.length_nil, Nat.add_zero] at hK ⊢
        rw [hset_same H k _ ho] at hK
        exact hK (c.m k) c w hC (Later.refl _ _ _) (.c (.own ho (ownsRow_one hrow) (Nat.le_refl _) (fun _ => rfl)))
      | s b off cap n' rows' vs g1 g2 gn gc gr =>
        by_cases h0 : more.length = 0
        · have hm : more = [] := List.length_eq_zero_iff.1 h0
          subst hm
          have hrun : (Builtin.append_ #[ty, ty] ty0 #[c.m k, .slice (some ⟨b, off, none⟩) 0 cap]).run P w = .ok (c.m k) w := by
            rcases hrow.2 with ⟨e1, e2⟩ | ⟨g', cap', cur, e1, _, _, hnc, _⟩
            · rw [e1]; simp [Builtin.append_, run_underlying hF.u, Go.sizeOf, typeInfo, hinf, Builtin.lenOf, Builtin.firstCells, loadCells, loadCellsFrom]
            · rw [e1]; simp [Builtin.append_, run_underlying hF.u, Go.sizeOf, typeInfo, hinf, Builtin.lenOf, Builtin.firstCells, loadCells, loadCellsFrom, hnc, storeCells]
          unfold Oper.wp execOp
          simp only [resolve, invoke, builtin, Sem.run_bind, Sem.run_pure, Result.andThen_ok, List.map_toArray, List.map_cons, List.map_nil, es, hval, List.length_nil, hrun]
          show K _ w
          simp only [List.append_nil, List.length_nil, Nat.add_zero] at hK ⊢
          rw [hset_same H k _ ho] at hK
          exact hK (c.m k) c w hC (Later.refl _ _ _) (.c (.own ho (ownsRow_one hrow) (Nat.le_refl _) (fun _ => rfl)))
        · have hnn : n' = n := by rw [← gn 0 (by omega)]; exact hn 0 (by omega)
          subst hnn
          refine wp_append_lies w s x ty rfl 0 e inf z n' bytes hF.u hinf hz hsz hby hzs hpn (c.m k) rows.length xs es hrow ⟨b, off, none⟩ more.length cap (((List.range more.length).map fun i => (List.range n').map fun j => vs i j).flatten) hval (flat_length vs _) (fun j u hu => ?_) (fun u hu => ?_) (by omega) (by unfold maxLen; omega) hbound (Nat.zero_le _) w.heap.size rfl ?_
          · have hj : j < more.length * n' := by
              rw [← flat_length (n := n') vs]
              rcases Nat.lt_or_ge j (((List.range more.length).map fun i => (List.range n').map fun j => vs i j).flatten).length with h | h
              · exact h
              · rw [List.getElem?_eq_none h] at hu; cases hu
            have hi : j / n' < more.length := Nat.div_lt_of_lt_mul (by rw [Nat.mul_comm]; exact hj)
            have hq : j % n' < n' := Nat.mod_lt _ hpn
            have e1 : j / n' * n' + j % n' = j := by rw [Nat.mul_comm]; exact Nat.div_add_mod j n'
            have e2 := flat_getD (n := n') vs more.length (j / n') (j % n') hi hq
            rw [e1, List.getD_eq_getElem?_getD, hu] at e2
            simp only [Option.getD_some] at e2
            rw [add_plain, ← e1, ← Nat.add_assoc, (gc _ _ hi hq).2, e2]
          · obtain ⟨l, hl1, hl2⟩ := List.mem_flatten.1 hu
            obtain ⟨i, hi, rfl⟩ := List.mem_map.1 hl1
            obtain ⟨j, hj, rfl⟩ := List.mem_map.1 hl2
            exact (gr i j (by simpa using hi) (by simpa using hj)).one
          · intro g0 cap0 w' hown hgrow hat hlt
            obtain ⟨c', k1, k2, k3⟩ := hC.grownRow ho _ xs _ hrow hbk hown hgrow (fun b hb => by
              injection hb with hb
              subst hb
              exact hat) (flat_length vs _) (by omega) gn (fun i j hi hj => by rw [flat_getD vs _ i j hi hj]; exact gr i j hi hj)
            exact hK _ c' w' k1 k2 (.c k3)
theorem step_len_own (sty : TypeId) (x : Operand) {e' : TypeId} {n' bytes : Nat} [hS : Sli P sty e' n' bytes] {k len : Nat} {e : TypeId} {n : Nat} {rows : List (List T)} (hx : ρ x = .c (.own k len)) (ho : hget H k = some (.row e n rows)) (hl : len = rows.length) :
    StepK P .r ⟨dst, .call { callee := .builtin .len, args := #[x], argTypes := #[sty] }, ty0, pos, af, g⟩ ρ H H (.c (.t (.v (.int .i64 len)))) :=
  ⟨rfl, fun H2 hsub => step_val (H := H2) fun E c w a hC h => by
    have ho := hsub _ _ ho
    have hv := h x (by simp [Op.operands, Call.operands])
    rw [hx] at hv
    have es := cown hv ho hl
    obtain ⟨hpn, xs, hrow, _⟩ := hC.obj k _ ho
    have hF := sli_facts hS.h
    refine ⟨.int .i64 len, ?_, .c (.t (.v _ rfl))⟩
    rcases hrow with ⟨az, e1, e2, _⟩ | ⟨g', cap', cur, e1, _⟩
    · simp [execOp, resolve, invoke, builtin, Builtin.len_, run_underlying hF.u, es, e1, goInt, hl, e2]
    · simp [execOp, resolve, invoke, builtin, Builtin.len_, run_underlying hF.u, es, e1, goInt, hl]⟩
end
end Go.Proofs.Ytiimkhnngpfnbaa.Fx
/- Own rows read and written, let go; slices cut; calls; the rule for a function. No program in sight. -/
namespace Go.Proofs.Ytiimkhnngpfnbaa.Fx
open Go.RowKit
set_option linter.unusedVariables false
set_option linter.unusedSimpArgs false
section
variable {P : Program} {dst : Option Tmp} {ty0 : TypeId} {pos : String} {af : Array Edge} {g : Option (Nat × Bool)} {ρ : Operand → AV} {H : AHeap}
theorem own_some {w : World} {e : TypeId} {n m : Nat} {v : Value} {xs : List Value} (h : Owns w e n v m xs) (hm : 0 < m) : ∃ b cap cur, v = .slice (some ⟨b, 0, none⟩) m cap ∧ w.heap[b]? = some (.cells cur e (0, 0)) ∧ m ≤ cap ∧ cap ≤ maxLen ∧ cur.size = cap * n ∧ cur.toList.take (m * n) = xs := by
  rcases h with ⟨_, _, e2, _⟩ | ⟨b, cap, cur, e1, h2, h3, h4, h5, h6⟩
  · omega
  · exact ⟨b, cap + 1, cur, e1, h2, h3, h4, h5, h6⟩
theorem row_le {i n m j : Nat} (h : i < m) (hj : j ≤ n) : i * n + j ≤ m * n := by
  have : (i + 1) * n ≤ m * n := Nat.mul_le_mul_right _ h
  rw [Nat.add_mul, Nat.one_mul] at this
  omega
theorem step_index_own (sty : TypeId) (x ix : Operand) {e' : TypeId} {n' bytes : Nat} [hS : Sli P sty e' n' bytes] {k len : Nat} {e : TypeId} {n : Nat} {rows : List (List T)} {kd : IntKind} {i : Int} (hx : ρ x = .c (.own k len)) (ho : hget H k = some (.row e n rows)) (hl : len = rows.length) (hnn : n' = n) (hi : ρ ix = .c (.t (.v (.int kd i)))) (h0 : 0 ≤ i) (h1 : i < len) :
    StepK P .r ⟨dst, .indexAddr sty x ix, ty0, pos, af, g⟩ ρ H H (.c (.elo k len i.toNat 0)) :=
  ⟨rfl, fun H2 hsub => step_val (H := H2) fun E c w a hC h => by
    have ho := hsub _ _ ho
    have hv := h x (by simp [Op.operands])
    have hw := h ix (by simp [Op.operands])
    rw [hx] at hv
    rw [hi] at hw
    have ew := exAV_eq hw (y := .int kd i) rfl
    have es := cown hv ho hl
    obtain ⟨hpn, xs, hrow, _⟩ := hC.obj k _ ho
    have hF := sli_facts hS.h
    obtain ⟨inf, z, hinf, hz, hsz, hby, hzs⟩ := hF.i
    obtain ⟨b, cap, cur, e1, e2, _⟩ := own_some hrow (by omega)
    refine ⟨.pointer (some ⟨b, i.toNat * n, none⟩), ?_, .c (.elo ho rfl (by omega) (fun _ => ⟨by omega, b, cap, by rw [e1, hl], by simp⟩))⟩
    have h1' : i < (rows.length : Int) := by omega
    simp [execOp, es, e1, ew, Instr.indexAt, asIntOf, run_underlying hF.u, h0, h1', Go.sizeOf, typeInfo, hinf, hsz, hnn, add_plain]⟩
theorem celo {c : Cx} {H : AHeap} {w : World} {v : Value} {k len i j : Nat} {e : TypeId} {n : Nat} {rows : List (List T)} (h : VRep c H w v (.c (.elo k len i j))) (ho : hget H k = some (.row e n rows)) (hl : len = rows.length) : i < len ∧ ∃ b cap, c.m k = .slice (some ⟨b, 0, none⟩) len cap ∧ v = .pointer (some ⟨b, i * n + j, none⟩) := by
  cases h with
  | c h => cases h with
    | elo ho' h1 h2 h3 => rw [ho] at ho'; injection ho' with ho'; injection ho' with _ e2 e3; subst e2; subst e3; exact h3 hl
theorem step_field_elo (sty : TypeId) (x : Operand) (f : Nat) {off n' : Nat} {agg : Bool} [hF : Fld P sty f off n' agg] {k len i j : Nat} {e : TypeId} {n : Nat} {rows : List (List T)} (hx : ρ x = .c (.elo k len i j)) (ho : hget H k = some (.row e n rows)) (hl : len = rows.length) :
    StepK P .r ⟨dst, .fieldAddr sty x f, ty0, pos, af, g⟩ ρ H H (.c (.elo k len i (j + off))) :=
  ⟨rfl, fun H2 hsub => step_val (H := H2) fun E c w a hC h => by
    have ho := hsub _ _ ho
    have hv := h x (by simp [Op.operands])
    rw [hx] at hv
    obtain ⟨h1, b, cap, h2, h3⟩ := celo hv ho hl
    refine ⟨_, ?_, .c (.elo ho rfl (by omega) (fun _ => ⟨h1, b, cap, h2, rfl⟩))⟩
    simp only [execOp, h3, Sem.run_bind, run_fieldAt hF.h, Result.andThen_ok, Sem.run_pure, Nat.add_assoc]⟩
theorem step_load_elo (ty : TypeId) (x : Operand) {agg : Bool} {n' : Nat} [hS : Shp P ty agg n'] {k len i j : Nat} {e : TypeId} {n : Nat} {rows : List (List T)} (hx : ρ x = .c (.elo k len i j)) (ho : hget H k = some (.row e n rows)) (hl : len = rows.length) (hn : agg = false → n' = 1) (hj : j + n' ≤ (rows.getD i []).length) :
    StepK P .r ⟨dst, .load ty x, ty0, pos, af, g⟩ ρ H H (takeAV agg n' ((rows.getD i []).map .t) j) :=
  ⟨rfl, fun H2 hsub => step_val (H := H2) fun E c w a hC h => by
    have ho := hsub _ _ ho
    have hv := h x (by simp [Op.operands])
    rw [hx] at hv
    obtain ⟨h1, b, cap, h2, h3⟩ := celo hv ho hl
    obtain ⟨hpn, xs, hrow, hrr, _⟩ := hC.obj k _ ho
    obtain ⟨b', cap', cur, e1, e2, _, _, e5, e6⟩ := own_some hrow (by omega)
    rw [h2] at e1
    simp only [Value.slice.injEq, Option.some.injEq, Addr.mk.injEq] at e1
    obtain ⟨⟨rfl, _⟩, _, rfl⟩ := e1
    have hri := hrr i (by omega)
    have hcell : ∀ q, q < n' → w.cell? ⟨b, i * n + j + q, none⟩ = some (((List.range n').map fun q => xs.getD (i * n + (j + q)) undef).getD q undef) := fun q hq => by
      have hle := row_le (i := i) (n := n) (m := rows.length) (j := j + q + 1) (by omega) (by omega)
      have hlx : i * n + (j + q) < xs.length := by rw [hrow.len]; omega
      have e7 : xs.getD (i * n + (j + q)) undef = cur.toList.getD (i * n + (j + q)) undef := by
        rw [← e6]
        simp only [List.getD_eq_getElem?_getD, List.getElem?_take]
        rw [if_pos (by omega)]
      have hcur : i * n + (j + q) < cur.size := by
        have := hrow.len
        rw [← e6, List.length_take] at this
        simp at this; omega
      rw [Nat.add_assoc]
      simp only [World.cell?, e2]
      simp only [List.getD_eq_getElem?_getD, List.getElem?_map, List.getElem?_range hq, Option.map_some, Option.getD_some] at e7 ⊢
      rw [e7]
      simp [hcur]
    have hrun := run_loadVar_cells hS.h hn w b (i * n + j) ((List.range n').map fun q => xs.getD (i * n + (j + q)) undef) (by simp) hcell
    refine ⟨_, ?_, take_rep (l := (rows.getD i []).map .t) (i := j) (cs := (List.range n').map fun q => xs.getD (i * n + (j + q)) undef) (by simp) hn (by simpa using hj) (fun q hq => ?_)⟩
    · simp only [execOp, h3, Instr.loadAt, Instr.sureAddr, Sem.run_bind, Sem.run_pure, Result.andThen_ok, hrun]
    · have h4 := hri.2 (j + q) (by omega)
      have hlt : j + q < (rows.getD i []).length := by omega
      have e1 : ((rows.getD i []).map CV.t).getD (j + q) .dead = .t ((rows.getD i []).getD (j + q) default) := by
        generalize rows.getD i [] = r at hlt
        simp [List.getD_eq_getElem?_getD, List.getElem?_map, List.getElem?_eq_getElem hlt]
      rw [e1]
      have e2 : ((List.range n').map fun q => xs.getD (i * n + (j + q)) undef).getD q undef = xs.getD (i * n + (j + q)) undef := by simp [List.getD_eq_getElem?_getD, List.getElem?_map, List.getElem?_range hq]
      rw [e2]
      exact .t h4⟩
theorem splice_take {α : Type} (l : List α) (i m : Nat) (xs : List α) (h : i + xs.length ≤ m) (hm : m ≤ l.length) : (splice l i xs).take m = splice (l.take m) i xs := by
  apply List.ext_getElem?
  intro j
  have hlen : (splice l i xs).length = l.length := splice_length _ _ _ (by omega)
  have hlen2 : (splice (l.take m) i xs).length = m := by rw [splice_length _ _ _ (by simp; omega)]; simp; omega
  by_cases hj : j < m
  · rw [List.getElem?_take, if_pos hj]
    have key : ∀ (l : List α) (d : α), j < l.length → l[j]? = some (l.getD j d) := fun l d hj => by simp [List.getD_eq_getElem?_getD, List.getElem?_eq_getElem hj]
    have hl : j < l.length := by omega
    rw [key _ l[j] (by omega), key (splice (l.take m) i xs) l[j] (by omega), splice_getD _ _ _ (by omega), splice_getD _ _ _ (by simp; omega)]
    split
    · rfl
    · simp [List.getD_eq_getElem?_getD, List.getElem?_take, hj]
  · rw [List.getElem?_eq_none (by simp; omega), List.getElem?_eq_none (by omega)]
/-- a store into an own row -/
theorem step_store_elo (ty : TypeId) (x y : Operand) {agg : Bool} {n' : Nat} [hS : Shp P ty agg n'] {k len i j : Nat} {e : TypeId} {n : Nat} {rows : List (List T)} {l : List T} (hx : ρ x = .c (.elo k len i j)) (ho : hget H k = some (.row e n rows)) (hl : len = rows.length) (hy : treesAV (ρ y) = some l) (hln : l.length = n') (hj : j + n' ≤ n) :
    StepK P .w ⟨dst, .store ty x y, ty0, pos, af, g⟩ ρ H (hset H k (.row e n (rows.set i (splice (rows.getD i []) j l)))) (.tup []) := by
  intro E c a w K Q hC hxx hK
  have hv := hxx x (by simp [Op.operands])
  rw [hx] at hv
  obtain ⟨h1, b, cap, h2, h3⟩ := celo hv ho hl
  obtain ⟨hpn, xs, hrow, hrr, _⟩ := hC.obj k _ ho
  obtain ⟨b', cap', cur, e1, e2, e3, e4, e5, e6⟩ := own_some hrow (by omega)
  rw [h2] at e1
  simp only [Value.slice.injEq, Option.some.injEq, Addr.mk.injEq] at e1
  obtain ⟨⟨rfl, _⟩, _, rfl⟩ := e1
  obtain ⟨q1, q2⟩ := trees_rep (hxx y (by simp [Op.operands])) hy
  have hri := hrr i (by omega)
  have hxsl := hrow.len
  have hle := row_le (i := i) (n := n) (m := rows.length) (j := j + n') (by omega) hj
  have hone : ∀ v ∈ (a.eval y).cells.toList, v.oneCell' = true := fun v hv => by
    obtain ⟨q, hq, rfl⟩ := List.mem_iff_getElem.1 hv
    have hq' : q < l.length := by rw [← q1]; simpa using hq
    have := (q2 q hq').one
    simpa [List.getD_eq_getElem?_getD, List.getElem?_eq_getElem hq] using this
  have hvl : (a.eval y).cells.toList.length = n' := by simp [q1, hln]
  have hcurl : rows.length * n ≤ cur.toList.length := by
    have := congrArg List.length e6
    rw [List.length_take, hxsl] at this
    omega
  have hfit : i * n + j + (a.eval y).cells.toList.length ≤ cur.toList.length := by rw [hvl]; omega
  have hrun := run_storeCells_at (P := P) b (i * n + j) e (a.eval y).cells.toList 0 cur w e2 (by simpa using hfit) hone
  have hexec : (execOp a.eval ⟨dst, .store ty x y, ty0, pos, af, g⟩).run P w = .ok .skip (w.setRow b (splice cur.toList (i * n + j) (a.eval y).cells.toList).toArray) := by
    simp only [execOp, h3, Instr.storeAt, Instr.sureAddr, storeVar, Sem.run_bind, Sem.run_pure, Result.andThen_ok, Shp.size hS.h]
    rw [if_neg (by simp; omega)]
    rw [hrun]
    simp [splice, Result.andThen]
  unfold Oper.wp
  rw [hexec]
  have hset' : (w.setRow b (splice cur.toList (i * n + j) (a.eval y).cells.toList).toArray).heap[b]? = some (.cells (splice cur.toList (i * n + j) (a.eval y).cells.toList).toArray e (0, 0)) := setRow_heap w b cur _ e _ e2
  have hkb : blk (c.m k) = some b := by rw [h2]; exact blk_some (by omega)
  have hnA := (hC.obj k _ ho).noA hkb
  have hother : ∀ q, q ≠ b → (w.setRow b (splice cur.toList (i * n + j) (a.eval y).cells.toList).toArray).heap[q]? = w.heap[q]? := fun q hq => setRow_other w b q _ hq
  have hsz : (w.setRow b (splice cur.toList (i * n + j) (a.eval y).cells.toList).toArray).heap.size = w.heap.size := by simp
  have hcell : ∀ b' q v, c.A b' q → w.cell? ⟨b', q, none⟩ = some v → c.A b' q ∧ (w.setRow b (splice cur.toList (i * n + j) (a.eval y).cells.toList).toArray).cell? ⟨b', q, none⟩ = some v := fun b' q v g1 g2 => by
    have hne : b' ≠ b := fun e => hnA q (e ▸ g1)
    exact ⟨g1, by rw [World.cell?_of_block (w := w) (a := ⟨b', q, none⟩) (hother b' hne)]; exact g2⟩
  have hslen : (rows.set i (splice (rows.getD i []) j l)).length = rows.length := by simp
  have hlat : Later c H w c (hset H k (.row e n (rows.set i (splice (rows.getD i []) j l)))) (w.setRow b (splice cur.toList (i * n + j) (a.eval y).cells.toList).toArray) := by
    refine ⟨fun q t cl h => ?_, fun q t n2 rows2 h => ?_, hcell⟩
    · by_cases e' : k = q
      · subst e'; rw [ho] at h; cases h
      · exact ⟨cl, by rw [hget_hset, if_neg e']; exact h, rfl⟩
    · by_cases e' : k = q
      · subst e'; rw [ho] at h; injection h with h; injection h with a1 a2 a3; subst a1; subst a2; subst a3
        exact ⟨_, by rw [hget_hset, if_pos rfl], .inl ⟨hslen, rfl⟩⟩
      · exact ⟨rows2, by rw [hget_hset, if_neg e']; exact h, .inl ⟨rfl, rfl⟩⟩
  refine hK undef c _ ⟨fun q o h => ?_, fun q q' b' g1 g2 => hC.inj q q' b' ?_ ?_, fun b' q h => by rw [hsz]; exact hC.lt b' q h, hC.ent, hC.le, hC.new, fun q b' h hb' => hC.own q b' ?_ hb', fun b' g1 g2 => ?_, hC.os, hC.tape, hC.output, by rw [hsz]; exact hC.size, hC.pin.step hlat⟩ hlat (.tup [] [] rfl (fun i hi => absurd hi (Nat.not_lt_zero _)))
  · rw [hget_hset] at h
    by_cases e' : k = q
    · rw [if_pos e'] at h; injection h with h; subst h; subst e'
      refine ⟨hpn, splice xs (i * n + j) (a.eval y).cells.toList, Owns.of (b := 0) ⟨?_, .inr ⟨b, cap, _, by rw [hslen, h2, hl], Nat.zero_le _, hset', by rw [hslen]; exact e3, e4, ?_, ?_⟩⟩, fun q hq => ?_, fun b' hb' q => (hC.obj k _ ho).noA hb' q⟩
      · rw [splice_length _ _ _ (by rw [hvl, hxsl]; omega), hslen]; exact hxsl
      · simp only [List.size_toArray]
        rw [splice_length _ _ _ hfit]; simpa using e5
      · rw [hslen]
        simp only
        rw [splice_take _ _ _ _ (by rw [hvl]; omega) hcurl, e6]
      · rw [hslen] at hq
        by_cases e8 : i = q
        · subst e8
          have e9 : (rows.set i (splice (rows.getD i []) j l)).getD i [] = splice (rows.getD i []) j l := by simp [List.getD_eq_getElem?_getD, hq]
          rw [e9]
          have hsl : j + l.length ≤ (rows.getD i []).length := by rw [hri.1, hln]; exact hj
          refine ⟨by rw [splice_length _ _ _ hsl]; exact hri.1, fun r hr => ?_⟩
          rw [splice_getD _ _ _ (by rw [hvl, hxsl]; omega), splice_getD _ _ _ hsl, hvl, hln]
          by_cases h9 : j ≤ r ∧ r < j + n'
          · rw [if_pos (by omega), if_pos h9]
            have e10 : i * n + r - (i * n + j) = r - j := by omega
            rw [e10]
            exact (q2 _ (by omega)).mono hcell
          · rw [if_neg (by omega), if_neg h9]
            exact (hri.2 r hr).mono hcell
        · have e9 : (rows.set i (splice (rows.getD i []) j l)).getD q [] = rows.getD q [] := by simp [List.getD_eq_getElem?_getD, List.getElem?_set_ne e8]
          rw [e9]
          refine ⟨(hrr q hq).1, fun r hr => ?_⟩
          have hne : ¬ (i * n + j ≤ q * n + r ∧ q * n + r < i * n + j + n') := by
            rintro ⟨z1, z2⟩
            rcases Nat.lt_or_gt_of_ne e8 with h9 | h9
            · have := row_le (i := i) (n := n) (m := q) (j := j + n') h9 hj; omega
            · have := row_le (i := q) (n := n) (m := i) (j := r + 1) h9 hr; omega
          rw [splice_getD _ _ _ (by rw [hvl, hxsl]; omega), hvl, if_neg hne]
          exact ((hrr q hq).2 r hr).mono hcell
    · rw [if_neg e'] at h
      have h0 := hC.obj q o h
      refine h0.later hlat rfl (fun b' hb' => hother b' (fun e2 => ?_)) (fun b' q hb' => h0.noA hb' q)
      subst e2
      exact e' (hC.inj k q b' (by rw [ho]; simp) (by rw [h]; simp) hkb hb')
  · rw [hget_hset] at g1; split at g1
    · rename_i e'; subst e'; rw [ho]; simp
    · exact g1
  · rw [hget_hset] at g2; split at g2
    · rename_i e'; subst e'; rw [ho]; simp
    · exact g2
  · rw [hget_hset] at h; split at h
    · rename_i e'; subst e'; rw [ho]; simp
    · exact h
  · have hne : b' ≠ b := by
      rintro rfl
      rcases hC.own k b' (by rw [ho]; simp) hkb with h | h
      · exact g2 h
      · omega
    rw [hother b' hne]; exact hC.keep b' g1 g2
/-- append to what has no room: a copy -/
theorem step_copy (x y : Operand) (ty : TypeId) {e : TypeId} {n bytes : Nat} [hS : Sli P ty e n bytes] {more : List (List T)} (hx : Coe (ρ x) (.c .z)) (hy : Coe (ρ y) (.c (.t (.s more)))) (hn : ∀ i, i < more.length → (more.getD i []).length = n) (hmax : more.length ≤ 1000000000) (hbytes : bytes ≤ 1000) :
    StepK P .p ⟨dst, .call { callee := .builtin .append, args := #[x, y], argTypes := #[ty, ty] }, ty0, pos, af, g⟩ ρ H H (.c (.t (.s more))) :=
  ⟨rfl, fun H2 E c a w K Q hC hxx hK => by
    have hF := sli_facts hS.h
    obtain ⟨inf, z, hinf, hz, hsz, hby, hzs⟩ := hF.i
    have hpn := hF.pos
    have hxv := hx _ _ _ _ (hxx x (by simp [Op.operands, Call.operands]))
    have hyv := hy _ _ _ _ (hxx y (by simp [Op.operands, Call.operands]))
    generalize ex : a.eval x = xv at hxv
    generalize ey : a.eval y = yv at hyv
    have fin : ∀ v w', (Builtin.append_ #[ty, ty] ty0 #[xv, yv]).run P w = .ok v w' → ∀ c', Conc E c' H2 w' → Later c H2 w c' H2 w' → VRep c' H2 w' v (.c (.t (.s more))) → Oper.wp P ⟨dst, .call { callee := .builtin .append, args := #[x, y], argTypes := #[ty, ty] }, ty0, pos, af, g⟩ a w K Q := by
      intro v w' hr c' h1 h2 h3
      unfold Oper.wp execOp
      simp only [resolve, invoke, builtin, Sem.run_bind, Sem.run_pure, Result.andThen_ok, List.map_toArray, List.map_cons, List.map_nil, ex, ey, hr]
      exact hK v c' w' h1 h2 h3
    cases hxv with
    | c hxv => cases hxv with
      | z ad =>
        have h00 : ∀ (src : Value), (∀ w' : World, (Builtin.lenOf src).run P w' = .ok 0 w') → (Builtin.firstCells inf.size 0 src).run P w = .ok #[] w → (Builtin.append_ #[ty, ty] ty0 #[.slice ad 0 0, src]).run P w = .ok (.slice ad 0 0) w := fun src h1 h2 => by
          cases ad <;> simp [Builtin.append_, run_underlying hF.u, Go.sizeOf, typeInfo, hinf, h1, h2, storeCells]
        cases hyv with
        | c hyv => cases hyv with
          | t hyv =>
            cases hyv with
            | e ad2 cap =>
              exact fin _ _ (h00 _ (fun w' => rfl) (by cases ad2 <;> simp [Builtin.firstCells, loadCells, loadCellsFrom])) c hC (Later.refl _ _ _) (.c (.t (.e ad 0)))
            | s b off cap n' _ vs g1 g2 gn gc gr =>
              by_cases h0 : more.length = 0
              · have hm : more = [] := List.length_eq_zero_iff.1 h0
                subst hm
                exact fin _ _ (h00 _ (fun w' => rfl) (by simp [Builtin.firstCells, loadCells, loadCellsFrom])) c hC (Later.refl _ _ _) (.c (.t (.e ad 0)))
              · have hnn : n' = n := by rw [← gn 0 (by omega)]; exact hn 0 (by omega)
                subst hnn
                have hnews : ∀ j u, (((List.range more.length).map fun i => (List.range n').map fun j => vs i j).flatten)[j]? = some u → w.cell? ((⟨b, off, none⟩ : Addr).add j) = some u := fun j u hu => by
                  have hj : j < more.length * n' := by
                    rw [← flat_length (n := n') vs]
                    rcases Nat.lt_or_ge j (((List.range more.length).map fun i => (List.range n').map fun j => vs i j).flatten).length with h | h
                    · exact h
                    · rw [List.getElem?_eq_none h] at hu; cases hu
                  have hi : j / n' < more.length := Nat.div_lt_of_lt_mul (by rw [Nat.mul_comm]; exact hj)
                  have hq : j % n' < n' := Nat.mod_lt _ hpn
                  have e1 : j / n' * n' + j % n' = j := by rw [Nat.mul_comm]; exact Nat.div_add_mod j n'
                  have e2 := flat_getD (n := n') vs more.length (j / n') (j % n') hi hq
                  rw [e1, List.getD_eq_getElem?_getD, hu] at e2
                  simp only [Option.getD_some] at e2
                  rw [add_plain, ← e1, ← Nat.add_assoc, (gc _ _ hi hq).2, e2]
                have hone : ∀ u ∈ (((List.range more.length).map fun i => (List.range n').map fun j => vs i j).flatten), u.oneCell' = true := fun u hu => by
                  obtain ⟨l, hl1, hl2⟩ := List.mem_flatten.1 hu
                  obtain ⟨i, hi, rfl⟩ := List.mem_map.1 hl1
                  obtain ⟨j, hj, rfl⟩ := List.mem_map.1 hl2
                  exact (gr i j (by simpa using hi) (by simpa using hj)).one
                have hs : Src P inf.size ty (.slice (some ⟨b, off, none⟩) more.length cap) more.length (((List.range more.length).map fun i => (List.range n').map fun j => vs i j).flatten) w := Src.ofSlice w hF.u _ _ _ _ (by rw [hsz]; exact flat_length vs _) hnews hone
                have hf : (Builtin.firstCells inf.size 0 (.slice ad 0 0)).run P w.drew = .ok ([] : List Value).toArray w.drew := by
                  cases ad with
                  | none => exact run_firstCells_none w.drew _ _ _ _
                  | some ad' => exact run_firstCells_some w.drew _ _ ad' _ _ [] (by simp) (by simp)
                have hnc : Builtin.nextslicecap (0 + more.length) 0 = 0 + more.length := by unfold Builtin.nextslicecap; rw [if_pos (by omega)]
                have hfit : Builtin.nextslicecap (0 + more.length) 0 * inf.bytes ≤ 281474976710656 := by
                  rw [hnc, hby, Nat.zero_add]
                  exact Nat.le_trans (Nat.mul_le_mul hmax hbytes) (by decide)
                have hrun := run_append_grow_src (P := P) w ty ty ty0 e inf z hF.u hinf hz ad 0 0 [] hf _ more.length _ hs (by omega) (by omega) hfit
                have hge := grownCap_ge w (0 + more.length) 0 e
                have hle := grownCap_le_maxLen w (0 + more.length) 0 e (by unfold maxLen; omega)
                rw [Nat.zero_add] at hge hle hrun
                generalize hCC : ((([] : List Value) ++ (((List.range more.length).map fun i => (List.range n').map fun j => vs i j).flatten)).toArray ++ Builtin.zeroCells z.cells (grownCap w more.length 0 e - more.length)) = CC at hrun
                have hg : Grew w (w.drew.alloc (.cells CC e)) := Grew.of_below (((Below.refl _ _).drew).alloc (Nat.le_refl _) _)
                obtain ⟨k1, k2⟩ := hC.grew hg (fun b i => c.A b i ∨ (b = w.heap.size)) (fun b i h => .inl h) (fun b i h => h.imp id (fun e => ⟨Nat.le_of_eq e.symm, by rw [e]; simp⟩))
                refine fin _ _ hrun _ k1 k2 (.c (.t ?_))
                refine .s w.heap.size 0 _ n' more (fun i j => vs i j) hge hle gn (fun i j hi hj => ⟨.inr rfl, ?_⟩) (fun i j hi hj => (gr i j hi hj).mono k2.cell)
                have hlt : i * n' + j < more.length * n' := by
                  have := row_le (i := i) (n := n') (m := more.length) (j := j + 1) hi hj
                  omega
                have e2 := flat_getD (n := n') vs more.length i j hi hj
                rw [Nat.zero_add, show (w.drew.alloc (.cells CC e)).cell? ⟨w.heap.size, i * n' + j, none⟩ = CC[i * n' + j]? from World.cell?_alloc_at (w := w.drew) CC e w.heap.size (i * n' + j) rfl, ← hCC, List.nil_append]
                rw [Array.getElem?_append_left (by simp only [List.size_toArray]; rw [flat_length]; exact hlt)]
                rw [List.getD_eq_getElem?_getD] at e2
                rw [List.getElem?_toArray]
                rcases h9 : (((List.range more.length).map fun i => (List.range n').map fun j => vs i j).flatten)[i * n' + j]? with _ | u
                · rw [List.getElem?_eq_none_iff, flat_length] at h9; omega
                · rw [h9] at e2; simp only [Option.getD_some] at e2; rw [e2]⟩
/-- the same, where it will grow further -/
theorem step_copy_own (k : Nat) (x y : Operand) (ty : TypeId) {e : TypeId} {n bytes : Nat} [hS : Sli P ty e n bytes] {more : List (List T)} (hk : hget H k = none) (hx : Coe (ρ x) (.c .z)) (hy : Coe (ρ y) (.c (.t (.s more)))) (hn : ∀ i, i < more.length → (more.getD i []).length = n) (hmax : more.length ≤ 1000000000) (hbytes : bytes ≤ 1000) :
    StepK P .w ⟨dst, .call { callee := .builtin .append, args := #[x, y], argTypes := #[ty, ty] }, ty0, pos, af, g⟩ ρ H (hset H k (.row e n more)) (.c (.own k more.length)) := by
  intro E c a w K Q hC hxx hK
  have hF := sli_facts hS.h
  obtain ⟨inf, z, hinf, hz, hsz, hby, hzs⟩ := hF.i
  have hpn := hF.pos
  have hxv := hx _ _ _ _ (hxx x (by simp [Op.operands, Call.operands]))
  have hyv := hy _ _ _ _ (hxx y (by simp [Op.operands, Call.operands]))
  generalize ex : a.eval x = xv at hxv
  generalize ey : a.eval y = yv at hyv
  cases hxv with
  | c hxv => cases hxv with
    | z az =>
      have hnil : more = [] → (∀ cap2 ad2, yv = .slice ad2 0 cap2 → Oper.wp P ⟨dst, .call { callee := .builtin .append, args := #[x, y], argTypes := #[ty, ty] }, ty0, pos, af, g⟩ a w K Q) := fun hm cap2 ad2 hval => by
        subst hm
        have hrun : (Builtin.append_ #[ty, ty] ty0 #[.slice az 0 0, .slice ad2 0 cap2]).run P w = .ok (.slice az 0 0) w := by
          cases az <;> cases ad2 <;> simp [Builtin.append_, run_underlying hF.u, Go.sizeOf, typeInfo, hinf, Builtin.lenOf, Builtin.firstCells, loadCells, loadCellsFrom, storeCells]
        obtain ⟨k1, k2, k3⟩ := hC.adopt k hk e n hpn az
        unfold Oper.wp execOp
        simp only [resolve, invoke, builtin, Sem.run_bind, Sem.run_pure, Result.andThen_ok, List.map_toArray, List.map_cons, List.map_nil, ex, ey, hval, hrun]
        exact hK _ _ _ k1 k2 (.c k3)
      cases hyv with
      | c hyv => cases hyv with
        | t hyv =>
          cases hyv with
          | e ad cap => exact hnil rfl cap ad rfl
          | s b off cap n' rows' vs g1 g2 gn gc gr =>
            by_cases h0 : more.length = 0
            · have hm : more = [] := List.length_eq_zero_iff.1 h0
              exact hnil hm cap (some ⟨b, off, none⟩) (by rw [h0])
            · have hnn : n' = n := by rw [← gn 0 (by omega)]; exact hn 0 (by omega)
              subst hnn
              obtain ⟨CC, cp, z1, z2, z3, z4, z5⟩ := zgrow (P := P) (ty0 := ty0) w az ty hF.u hinf hz hsz hby hzs hpn hmax hbytes (by omega) vs gc (fun i j hi hj => (gr i j hi hj).one) (cap := cap)
              obtain ⟨hC2, hl2⟩ := hC.drew (w' := w.drew) rfl rfl rfl rfl
              obtain ⟨c', k1, k2, k3⟩ := hC2.bornRow k e n' hpn more (by omega) (.inl hk) CC cp z2 z3 z4 gn vs z5 (fun i j hi hj => (gr i j hi hj).mono hl2.cell)
              unfold Oper.wp execOp
              simp only [resolve, invoke, builtin, Sem.run_bind, Sem.run_pure, Result.andThen_ok, List.map_toArray, List.map_cons, List.map_nil, ex, ey, z1]
              exact hK _ c' _ k1 (hl2.trans k2) (.c k3)
/-- s[:0:0] -/
theorem step_cut0 (ty : TypeId) (x y z : Operand) {e : TypeId} {n bytes : Nat} [hS : Sli P ty e n bytes] {rows : List (List T)} {k1 k2 : IntKind} (hx : Coe (ρ x) (.c (.t (.s rows)))) (hy : ρ y = .c (.t (.v (.int k1 0)))) (hz : ρ z = .c (.t (.v (.int k2 0)))) : StepK P .p ⟨dst, .slice ty x none (some y) (some z), ty0, pos, af, g⟩ ρ H H (.c .z) :=
  stepP_val fun H E c w a _ hop => by
    have hF := sli_facts hS.h
    obtain ⟨inf, zv, hinf, hzv, hsz, hby, hzs⟩ := hF.i
    have hv := hx _ _ _ _ (hop x (by simp [Op.operands]))
    have ey := exAV_eq (hy ▸ hop y (by simp [Op.operands])) (y := .int k1 0) rfl
    have ez := exAV_eq (hz ▸ hop z (by simp [Op.operands])) (y := .int k2 0) rfl
    have hsize : (sizeOf e).run P w = .ok n w := by simp [Go.sizeOf, typeInfo, hinf, hsz]
    have key : ∀ (ad : Option Addr) (len cap : Nat), a.eval x = .slice ad len cap → (execOp a.eval ⟨dst, .slice ty x none (some y) (some z), ty0, pos, af, g⟩).run P w = .ok (.value (.slice ad 0 0)) w := fun ad len cap hval => by
      have hb : ∀ (kd : IntKind) (q : Nat) (cd : BoundsCode), (Instr.sliceBound (.int kd 0) q cd).run P w = .ok 0 w := fun kd q cd => by simp [Instr.sliceBound, asIntOf]
      simp only [execOp, Instr.sliceAt, Sem.run_bind, run_underlying hF.u, Result.andThen_ok, hval, Instr.slice, Instr.sliceBounds, Option.map_none, Option.map_some, Sem.run_pure, hsize, if_true, ey, ez, hb]
    generalize hval : a.eval x = val at hv
    cases hv with
    | c hv => cases hv with
      | t hv =>
        cases hv with
        | e ad cap => exact ⟨_, key ad 0 cap hval, .c (.z ad)⟩
        | s b off cap n' _ vs g1 g2 gn gc gr => exact ⟨_, key _ _ cap hval, .c (.z _)⟩
/-- s[l:h] -/
theorem step_cut (ty : TypeId) (x : Operand) (lo hi : Option Operand) {e : TypeId} {n bytes : Nat} [hS : Sli P ty e n bytes] {rows : List (List T)} (l h : Nat) (hx : ρ x = .c (.t (.s rows))) (hl : match lo with | some y => ∃ kd, ρ y = .c (.t (.v (.int kd l))) | none => l = 0) (hh : match hi with | some y => ∃ kd, ρ y = .c (.t (.v (.int kd h))) | none => h = rows.length)
    (h1 : l ≤ h) (h2 : h ≤ rows.length) (hn : ∀ i, i < rows.length → (rows.getD i []).length = n) : StepK P .p ⟨dst, .slice ty x lo hi none, ty0, pos, af, g⟩ ρ H H (.c (.t (.s ((rows.take h).drop l)))) :=
  stepP_val fun H E c w a _ hop => by
    have hF := sli_facts hS.h
    obtain ⟨inf, z, hinf, hz, hsz, hby, hzs⟩ := hF.i
    have hpn := hF.pos
    have hv := hop x (by simp [Op.operands])
    rw [hx] at hv
    have hlen : ((rows.take h).drop l).length = h - l := by simp; omega
    have key : ∀ (ad : Option Addr) (cap : Nat), rows.length ≤ cap → a.eval x = .slice ad rows.length cap → (execOp a.eval ⟨dst, .slice ty x lo hi none, ty0, pos, af, g⟩).run P w = .ok (.value (.slice (if cap = l then ad else ad.map (·.add (l * n))) (h - l) (cap - l))) w := by
      intro ad cap hcap hval
      have hhb : ∀ kd, (Instr.sliceBound (.int kd h) cap .sliceAcap).run P w = .ok h w := fun kd => by
        simp [Instr.sliceBound, asIntOf]; omega
      have hlb : ∀ kd, (Instr.sliceBound (.int kd l) h .sliceB).run P w = .ok l w := fun kd => by
        simp [Instr.sliceBound, asIntOf]; omega
      have hsize : (sizeOf e).run P w = .ok n w := by simp [Go.sizeOf, typeInfo, hinf, hsz]
      cases lo with
      | none =>
        simp only at hl
        subst hl
        cases hi with
        | none =>
          simp only at hh
          subst hh
          simp only [execOp, Instr.sliceAt, Sem.run_bind, run_underlying hF.u, Result.andThen_ok, hval, Instr.slice, Instr.sliceBounds, Option.map_none, Sem.run_pure, hsize, if_true]
        | some y =>
          obtain ⟨kd, hy⟩ := hh
          have ey := exAV_eq (hy ▸ hop y (by simp [Op.operands])) (y := .int kd h) rfl
          simp only [execOp, Instr.sliceAt, Sem.run_bind, run_underlying hF.u, Result.andThen_ok, hval, Instr.slice, Instr.sliceBounds, Option.map_none, Option.map_some, Sem.run_pure, hsize, if_true, ey, hhb]
      | some yl =>
        obtain ⟨kl, hyl⟩ := hl
        have eyl := exAV_eq (hyl ▸ hop yl (by simp [Op.operands])) (y := .int kl l) rfl
        cases hi with
        | none =>
          simp only at hh
          subst hh
          simp only [execOp, Instr.sliceAt, Sem.run_bind, run_underlying hF.u, Result.andThen_ok, hval, Instr.slice, Instr.sliceBounds, Option.map_none, Option.map_some, Sem.run_pure, hsize, eyl, Option.isSome_none, Bool.false_eq_true, if_false, hlb]
        | some y =>
          obtain ⟨kd, hy⟩ := hh
          have ey := exAV_eq (hy ▸ hop y (by simp [Op.operands])) (y := .int kd h) rfl
          simp only [execOp, Instr.sliceAt, Sem.run_bind, run_underlying hF.u, Result.andThen_ok, hval, Instr.slice, Instr.sliceBounds, Option.map_none, Option.map_some, Sem.run_pure, hsize, if_true, ey, eyl, Option.isSome_none, Bool.false_eq_true, if_false, hhb, hlb]
    generalize hval : a.eval x = val at hv
    cases hv with
    | c hv => cases hv with
      | t hv =>
        cases hv with
        | e ad cap =>
          have h0 : h = 0 := by simpa using h2
          have hl0 : l = 0 := by omega
          subst h0; subst hl0
          exact ⟨_, key ad cap (Nat.zero_le _) hval, .c (.t (.e _ _))⟩
        | s b off cap n' _ vs g1 g2 gn gc gr =>
          refine ⟨_, key _ cap g1 hval, .c (.t ?_)⟩
          by_cases h0 : h - l = 0
          · have e0 : (rows.take h).drop l = [] := List.length_eq_zero_iff.1 (by omega)
            rw [e0, h0]
            exact .e _ _
          · have hnn : n' = n := by rw [← gn l (by omega)]; exact hn l (by omega)
            subst hnn
            rw [if_neg (by omega)]
            simp only [Option.map_some, add_plain]
            rw [← hlen]
            have hget : ∀ i, i < h - l → ((rows.take h).drop l).getD i [] = rows.getD (l + i) [] := fun i hi => by
              simp only [List.getD_eq_getElem?_getD, List.getElem?_drop, List.getElem?_take]
              rw [if_pos (by omega)]
            refine .s b (off + l * n') (cap - l) n' _ (fun i j => vs (l + i) j) (by omega) (by omega) (fun i hi => by rw [hget i (by omega)]; exact gn _ (by omega)) (fun i j hi hj => ?_) (fun i j hi hj => by rw [hget i (by omega)]; exact gr _ _ (by omega) hj)
            have := gc (l + i) j (by omega) hj
            rw [Nat.add_mul, ← Nat.add_assoc] at this
            exact this
end
end Go.Proofs.Ytiimkhnngpfnbaa.Fx
/- States told with less; rows let go; calls; the rule for a function. No program in sight. -/
namespace Go.Proofs.Ytiimkhnngpfnbaa.Fx
open Go.RowKit
set_option linter.unusedVariables false
set_option linter.unusedSimpArgs false
theorem sget_mem : ∀ (s : Slots) (t : Nat), sget s t = .dead ∨ ∃ p ∈ s, p.1 = t ∧ sget s t = p.2 := by
  intro s
  induction s with
  | nil => intro t; exact .inl rfl
  | cons p u ih =>
    intro t
    obtain ⟨q, x⟩ := p
    unfold sget
    by_cases h : q = t
    · rw [if_pos h]; exact .inr ⟨(q, x), List.mem_cons_self, h, rfl⟩
    · rw [if_neg h]
      rcases ih t with h2 | ⟨p, h2, h3, h4⟩
      · exact .inl h2
      · exact .inr ⟨p, List.mem_cons_of_mem _ h2, h3, h4⟩
theorem hget_mem : ∀ (s : AHeap) (k : Nat) (o : AObj), hget s k = some o → (k, o) ∈ s := by
  intro s
  induction s with
  | nil => intro k o h; cases h
  | cons p u ih =>
    intro k o h
    obtain ⟨q, x⟩ := p
    unfold hget at h
    by_cases e : q = k
    · rw [if_pos e] at h; injection h with h; rw [← h, ← e]; exact List.mem_cons_self
    · rw [if_neg e] at h; exact List.mem_cons_of_mem _ (ih k o h)
def okObj (H : AHeap) : AObj → Bool
  | .var _ cells => okL H cells
  | .row _ _ _ => true
/-- slots and objects left out, told with less -/
def PinW (s1 : AHeap) : AHeap → Prop
  | [] => True
  | (k, _) :: r => (1000 ≤ k → (hget s1 k).isSome = true) ∧ PinW s1 r
theorem pinW_mem {s1 : AHeap} : ∀ (l : AHeap), PinW s1 l → ∀ p ∈ l, 1000 ≤ p.1 → (hget s1 p.1).isSome = true := by
  intro l
  induction l with
  | nil => intro _ p hp; cases hp
  | cons q t ih =>
    obtain ⟨k, x⟩ := q
    intro h p hp
    rcases List.mem_cons.1 hp with rfl | hp
    · exact h.1
    · exact ih h.2 p hp
structure WeakOk (s s1 : ASt) : Prop where
  pin : PinW s1.hp s.hp
  sl : ∀ p ∈ s1.sl, Coe (sget s.sl p.1) p.2
  hp : ∀ p ∈ s1.hp, hget s.hp p.1 = some p.2
  ok : s1.sl.all (fun p => okAV s1.hp p.2) = true
  oh : s1.hp.all (fun p => okObj s1.hp p.2) = true
theorem Conc.weak {E : Ent} {c : Cx} {H H1 : AHeap} {w : World} (hC : Conc E c H w) (hsub : SubH H1 H) (pin : PinW H1 H) (oh : H1.all (fun p => okObj H1 p.2) = true) : Conc E c H1 w := by
  have hpin : ∀ k o, hget H k = some o → 1000 ≤ k → hget H1 k = some o := fun k o hk hb => by
    have h1 := pinW_mem _ pin (k, o) (hget_mem _ _ _ hk) hb
    obtain ⟨o', ho'⟩ := Option.isSome_iff_exists.1 h1
    have h2 := hsub k o' ho'
    rw [hk] at h2; injection h2 with h2; rw [h2]; exact ho'
  have hne : ∀ k, hget H1 k ≠ none → hget H k ≠ none := fun k h => by
    cases e : hget H1 k with
    | none => exact absurd e h
    | some o => rw [hsub k o e]; simp
  refine ⟨fun k o hk => ?_, fun k k' b h1 h2 => hC.inj k k' b (hne k h1) (hne k' h2), hC.lt, hC.ent, hC.le, hC.new, fun k b h1 => hC.own k b (hne k h1), hC.keep, hC.os, hC.tape, hC.output, hC.size, ⟨hC.pin.big, fun k ty cells e => ?_, fun k ty n rows e => ?_⟩⟩
  · have h0 := hC.obj k o (hsub k o hk)
    have hok := List.all_eq_true.1 oh (k, o) (hget_mem _ _ _ hk)
    cases o with
    | var ty cells =>
      obtain ⟨b, cs, g1, g2, g3, g4, g5⟩ := h0
      exact ⟨b, cs, g1, g2, g3, fun i hi => (g4 i hi).sub hsub (fun _ _ _ => rfl) (fun _ _ h => h) (okL_get _ _ hok), g5⟩
    | row ty n rows => exact h0
  · obtain ⟨cells', g1, g2⟩ := hC.pin.var _ _ _ e
    exact ⟨cells', hpin _ _ g1 (hC.pin.big _ _ e), g2⟩
  · obtain ⟨rows', g1, g2⟩ := hC.pin.row _ _ _ _ e
    exact ⟨rows', hpin _ _ g1 (hC.pin.big _ _ e), g2⟩
theorem weak_of {s s1 : ASt} (h : WeakOk s s1) : Weak s s1 := by
  intro n E a w ht
  obtain ⟨⟨c, hC, hS⟩, h3, h4⟩ := ht
  have hsub : SubH s1.hp s.hp := fun k o hk => h.hp (k, o) (hget_mem _ _ _ hk)
  refine ⟨⟨c, hC.weak hsub h.pin h.oh, fun t => ?_⟩, h3, h4⟩
  rcases sget_mem s1.sl t with e | ⟨p, hp, e1, e2⟩
  · rw [e]; exact .dead _
  · rw [e2]
    have h1 := h.sl p hp _ _ _ _ (hS p.1)
    rw [e1] at h1
    exact h1.sub hsub (fun _ _ _ => rfl) (fun _ _ h => h) (List.all_eq_true.1 h.ok p hp)
/-- a row that nobody changes any more -/
def frzC (k : Nat) (rows : List (List T)) : CV → CV
  | .own k' len => if k' = k then (if len = rows.length then .t (.s rows) else .dead) else .own k' len
  | .elo k' len i j => if k' = k then .dead else .elo k' len i j
  | .fn f [] [] => .fn f [] []
  | .fn _ _ _ => .dead
  | x => x
def frzAV (k : Nat) (rows : List (List T)) : AV → AV
  | .c x => .c (frzC k rows x)
  | .agg l => .agg (l.map (frzC k rows))
  | .tup [] => .tup []
  | .tup _ => .dead
  | .dead => .dead
def frzO (k : Nat) (rows : List (List T)) : AObj → AObj
  | .var ty cells => .var ty (cells.map (frzC k rows))
  | o => o
def frzS (k : Nat) (rows : List (List T)) : Slots → Slots
  | [] => []
  | (t, x) :: s => (t, frzAV k rows x) :: frzS k rows s
def frzH (k : Nat) (rows : List (List T)) : AHeap → AHeap
  | [] => []
  | (q, o) :: s => if q = k then frzH k rows s else (q, frzO k rows o) :: frzH k rows s
theorem frzS_get (k : Nat) (rows : List (List T)) : ∀ (s : Slots) (t : Nat), sget (frzS k rows s) t = frzAV k rows (sget s t) := by
  intro s
  induction s with
  | nil => intro t; rfl
  | cons p u ih =>
    intro t
    obtain ⟨q, x⟩ := p
    simp only [frzS, sget]
    split
    · rfl
    · exact ih t
theorem frzH_get (k : Nat) (rows : List (List T)) : ∀ (s : AHeap) (q : Nat), hget (frzH k rows s) q = if q = k then none else (hget s q).map (frzO k rows) := by
  intro s
  induction s with
  | nil => intro q; simp [frzH, hget]
  | cons p u ih =>
    intro q
    obtain ⟨q', x⟩ := p
    unfold frzH
    by_cases h : q' = k
    · rw [if_pos h, ih]
      by_cases h2 : q = k
      · rw [if_pos h2, if_pos h2]
      · rw [if_neg h2, if_neg h2]
        show _ = Option.map (frzO k rows) (if q' = q then some x else hget u q)
        rw [if_neg (by omega)]
    · rw [if_neg h]
      unfold hget
      by_cases h2 : q' = q
      · rw [if_pos h2, if_pos h2, if_neg (by omega)]; rfl
      · rw [if_neg h2, if_neg h2, ih]
theorem weak_freeze {s : ASt} (k : Nat) (hk1 : k < 1000) {e : TypeId} {n : Nat} {rows : List (List T)} (hk : hget s.hp k = some (.row e n rows)) : Weak s ⟨frzS k rows s.sl, frzH k rows s.hp⟩ := by
  intro nn E a w ht
  obtain ⟨⟨c, hC, hS⟩, h3, h4⟩ := ht
  obtain ⟨hpn, xs, hrow, hrr, _⟩ := hC.obj k _ hk
  have htree : TRep (fun b i => c.A b i ∨ blk (c.m k) = some b) w (c.m k) (.s rows) := by
    by_cases h0 : rows.length = 0
    · have hr0 : rows = [] := List.length_eq_zero_iff.1 h0
      subst hr0
      rcases hrow with ⟨a, e1, _⟩ | ⟨b, cap, cur, e1, _⟩
      · rw [e1]; exact .e a 0
      · rw [e1]; exact .e _ _
    · obtain ⟨b, cap, cur, e1, e2, e3, e4, e5, e6⟩ := own_some hrow (by omega)
      have hcell : ∀ i j, i < rows.length → j < n → w.cell? ⟨b, i * n + j, none⟩ = some (xs.getD (i * n + j) undef) := fun i j hi hj => by
        have hle := row_le (i := i) (n := n) (m := rows.length) (j := j + 1) hi hj
        have hlx : i * n + j < xs.length := by rw [hrow.len]; omega
        have hcur : i * n + j < cur.size := by
          have := hrow.len
          rw [← e6, List.length_take] at this
          simp at this; omega
        have e7 : xs.getD (i * n + j) undef = cur.toList.getD (i * n + j) undef := by
          rw [← e6]
          simp only [List.getD_eq_getElem?_getD, List.getElem?_take]
          rw [if_pos (by omega)]
        rw [e7]
        simp [World.cell?, e2, hcur]
      rw [e1]
      refine .s b 0 cap n rows (fun i j => xs.getD (i * n + j) undef) e3 e4 (fun i hi => (hrr i hi).1) (fun i j hi hj => ⟨.inr (blk_some (by omega)), ?_⟩) (fun i j hi hj => ((hrr i hi).2 j hj).mono (fun b i v h1 h2 => ⟨.inl h1, h2⟩))
      rw [Nat.zero_add]; exact hcell i j hi hj
  have hC2 : ∀ q o, hget (frzH k rows s.hp) q = some o → q ≠ k ∧ ∃ o', hget s.hp q = some o' ∧ o = frzO k rows o' := fun q o hq => by
    rw [frzH_get] at hq
    by_cases e1 : q = k
    · rw [if_pos e1] at hq; cases hq
    · rw [if_neg e1] at hq
      cases ho : hget s.hp q with
      | none => rw [ho] at hq; cases hq
      | some o' => rw [ho] at hq; injection hq with hq; exact ⟨e1, o', rfl, hq.symm⟩
  have hne : ∀ q, hget (frzH k rows s.hp) q ≠ none → q ≠ k ∧ hget s.hp q ≠ none := fun q hq => by
    cases ho : hget (frzH k rows s.hp) q with
    | none => exact absurd ho hq
    | some o => obtain ⟨h1, o', h2, _⟩ := hC2 q o ho; exact ⟨h1, by rw [h2]; simp⟩
  have hrep : ∀ v x, CRep c s.hp w v x → CRep ⟨c.m, fun b i => c.A b i ∨ blk (c.m k) = some b⟩ (frzH k rows s.hp) w v (frzC k rows x) := by
    intro v x h
    have hm : ∀ {v x}, TRep c.A w v x → TRep (fun b i => c.A b i ∨ blk (c.m k) = some b) w v x := fun h => h.mono (fun b i v h1 h2 => ⟨.inl h1, h2⟩)
    cases h with
    | dead v h => exact .dead v h
    | t h => exact .t (hm h)
    | z a => exact .z a
    | ab b => exact .ab b
    | ptr ho hmk =>
      rename_i k' i ty cells b
      have hkk : k' ≠ k := fun e => by rw [e, hk] at ho; cases ho
      exact .ptr (cells := cells.map (frzC k rows)) (ty := ty) (by rw [frzH_get, if_neg hkk, ho]; rfl) hmk
    | own ho h1 hl hv =>
      rename_i k' len ty' n' rows'
      show CRep _ _ _ _ (if k' = k then _ else _)
      by_cases e1 : k' = k
      · rw [if_pos e1]
        subst e1
        rw [hk] at ho; injection ho with ho; injection ho with _ _ e3; subst e3
        by_cases e2 : len = rows.length
        · rw [if_pos e2, hv e2]; exact .t htree
        · rw [if_neg e2]; exact .dead _ h1
      · rw [if_neg e1]
        exact .own (by rw [frzH_get, if_neg e1, ho]; rfl) h1 hl hv
    | el vs hc hr => exact .el vs (fun j hj => ⟨.inl (hc j hj).1, (hc j hj).2⟩) (fun j hj => hm (hr j hj))
    | elo ho h1 hl hv =>
      rename_i k' len i j ty' n' rows'
      show CRep _ _ _ _ (if k' = k then _ else _)
      by_cases e1 : k' = k
      · rw [if_pos e1]; exact .dead _ h1
      · rw [if_neg e1]
        exact .elo (by rw [frzH_get, if_neg e1, ho]; rfl) h1 hl hv
    | fn f fs cs vs us h1 h2 hf hc =>
      cases fs with
      | cons x t => exact .dead _ rfl
      | nil => cases cs with
        | cons x t => exact .dead _ rfl
        | nil => exact .fn f [] [] vs us h1 h2 (fun i hi => absurd hi (Nat.not_lt_zero _)) (fun i hi => absurd hi (Nat.not_lt_zero _))
  have hget' : ∀ (l : List CV) (i : Nat), (l.map (frzC k rows)).getD i .dead = frzC k rows (l.getD i .dead) := fun l i => by
    simp only [List.getD_eq_getElem?_getD, List.getElem?_map]
    cases l[i]? <;> rfl
  refine ⟨⟨⟨c.m, fun b i => c.A b i ∨ blk (c.m k) = some b⟩, ⟨fun q o hq => ?_, fun q q' b h1 h2 => hC.inj q q' b (hne q h1).2 (hne q' h2).2, fun b i h => ?_, hC.ent, fun b i h => .inl (hC.le b i h), fun b i h => ?_, fun q b h1 => hC.own q b (hne q h1).2, hC.keep, hC.os, hC.tape, hC.output, hC.size, ⟨hC.pin.big, fun q ty cells e => ?_, fun q ty n rows e => ?_⟩⟩, fun t => ?_⟩, h3, h4⟩
  · obtain ⟨e1, o', e2, rfl⟩ := hC2 q o hq
    have h0 := hC.obj q o' e2
    have hno : ∀ b, blk (c.m q) = some b → ∀ i, ¬ (c.A b i ∨ blk (c.m k) = some b) := fun b hb i h => by
      rcases h with h | h
      · exact h0.noA hb i h
      · exact e1 (hC.inj q k b (by rw [e2]; simp) (by rw [hk]; simp) hb h)
    cases o' with
    | var ty cells =>
      obtain ⟨b, cs, g1, g2, g3, g4, g5⟩ := h0
      refine ⟨b, cs, g1, g2, by simpa using g3, fun i hi => ?_, hno b (by rw [g1]; rfl)⟩
      rw [hget']
      exact hrep _ _ (g4 i (by simpa using hi))
    | row ty n' rows' =>
      obtain ⟨g0, ys, g1, g2, g3⟩ := h0
      exact ⟨g0, ys, g1, fun i hi => ⟨(g2 i hi).1, fun j hj => ((g2 i hi).2 j hj).mono (fun b i v h1 h2 => ⟨.inl h1, h2⟩)⟩, hno⟩
  · rcases h with h | h
    · exact hC.lt b i h
    · exact (hC.obj k _ hk).blk_lt h
  · rcases h with h | h
    · exact hC.new b i h
    · exact .inr ((hC.own k b (by rw [hk]; simp) h).symm)
  · obtain ⟨cells', g1, g2⟩ := hC.pin.var _ _ _ e
    have := hC.pin.big _ _ e
    exact ⟨cells'.map (frzC k rows), by rw [frzH_get, if_neg (by omega), g1]; rfl, g2⟩
  · rename_i rows0
    obtain ⟨rows', g1, g2⟩ := hC.pin.row _ _ _ _ e
    have := hC.pin.big _ _ e
    exact ⟨rows', by rw [frzH_get, if_neg (by omega), g1]; rfl, g2⟩
  · have h0 := hS t
    rw [frzS_get]
    cases h : sget s.sl t with
    | dead => exact .dead _
    | c x =>
      rw [h] at h0
      generalize a.tmps.getD t undef = v at h0
      cases h0 with
      | c h0 => exact .c (hrep _ _ h0)
    | agg l =>
      rw [h] at h0
      generalize a.tmps.getD t undef = v at h0
      cases h0 with
      | agg cs l h1 h2 =>
        refine .agg cs _ (by simpa using h1) (fun i hi => ?_)
        rw [hget']
        exact hrep _ _ (h2 i (by simpa using hi))
    | tup l =>
      rw [h] at h0
      generalize a.tmps.getD t undef = v at h0
      cases l with
      | nil => cases h0 with
        | tup vs _ h1 h2 => exact .tup vs [] h1 (fun i hi => absurd hi (Nat.not_lt_zero _))
      | cons x u => exact .dead _
/-- a slice without room, that is to grow -/
theorem weak_adopt {s : ASt} (t k : Nat) (e : TypeId) (n : Nat) (hn : 0 < n) (ht : sget s.sl t = .c (.t (.v (.slice none 0 0))) ∨ sget s.sl t = .c .z) (hk : hget s.hp k = none) : Weak s ⟨sset s.sl t (.c (.own k 0)), hset s.hp k (.row e n [])⟩ := by
  intro nn E a w h
  obtain ⟨⟨c, hC, hS⟩, h3, h4⟩ := h
  have h0 := hS t
  obtain ⟨ad, hv⟩ : ∃ ad, a.tmps.getD t undef = .slice ad 0 0 := by
    rcases ht with ht | ht
    · rw [ht] at h0
      exact ⟨none, exAV_eq h0 (y := .slice none 0 0) rfl⟩
    · rw [ht] at h0
      generalize a.tmps.getD t undef = v at h0
      cases h0 with
      | c h0 => cases h0 with
        | z ad => exact ⟨ad, rfl⟩
  obtain ⟨g1, g2, g3⟩ := hC.adopt k hk e n hn ad
  refine ⟨⟨_, g1, fun t' => ?_⟩, h3, h4⟩
  rw [sget_sset]
  split
  · rename_i e1
    subst e1
    rw [hv]
    exact .c g3
  · exact (hS t').later g2
/-- a variable's cells, told otherwise -/
theorem Conc.revar {E : Ent} {c : Cx} {H : AHeap} {w : World} (hC : Conc E c H w) {k : Nat} {ty : TypeId} {cells cells' : List CV} (hk : hget H k = some (.var ty cells)) (hl : cells'.length = cells.length)
    (h : ∀ (v : Value) i, i < cells.length → CRep c H w v (cells.getD i .dead) → CRep c H w v (cells'.getD i .dead)) : Conc E c (hset H k (.var ty cells')) w ∧ Later c H w c (hset H k (.var ty cells')) w := by
  have hlat : Later c H w c (hset H k (.var ty cells')) w := by
    refine ⟨fun j t cl hj => ?_, fun j t n rows hj => ?_, fun b i v h1 h2 => ⟨h1, h2⟩⟩
    · by_cases e : k = j
      · subst e; rw [hk] at hj; injection hj with hj; injection hj with e1 e2
        exact ⟨cells', by rw [hget_hset, if_pos rfl, e1], rfl⟩
      · exact ⟨cl, by rw [hget_hset, if_neg e]; exact hj, rfl⟩
    · by_cases e : k = j
      · subst e; rw [hk] at hj; cases hj
      · exact ⟨rows, by rw [hget_hset, if_neg e]; exact hj, .inl ⟨rfl, rfl⟩⟩
  have hne : ∀ j, hget (hset H k (.var ty cells')) j ≠ none → hget H j ≠ none := fun j hj => by
    rw [hget_hset] at hj
    split at hj
    · rename_i e; subst e; rw [hk]; simp
    · exact hj
  refine ⟨⟨fun j o hj => ?_, fun j j' b g1 g2 => hC.inj j j' b (hne j g1) (hne j' g2), hC.lt, hC.ent, hC.le, hC.new, fun j b g => hC.own j b (hne j g), hC.keep, hC.os, hC.tape, hC.output, hC.size, hC.pin.step hlat⟩, hlat⟩
  rw [hget_hset] at hj
  by_cases e : k = j
  · rw [if_pos e] at hj; injection hj with hj; subst hj; subst e
    obtain ⟨b, cs, g1, g2, g3, g4, g5⟩ := hC.obj k _ hk
    exact ⟨b, cs, g1, g2, g3.trans hl.symm, fun i hi => (h _ i (by omega) (g4 i (by omega))).later hlat, g5⟩
  · rw [if_neg e] at hj
    have h0 := hC.obj j o hj
    exact h0.later hlat rfl (fun b hb => rfl) (fun b i hb => h0.noA hb i)
/-- a variable's field that is nil, and is to grow -/
theorem weak_adoptV {s : ASt} (k i key : Nat) (e : TypeId) (n : Nat) (hn : 0 < n) {ty : TypeId} {cells : List CV} (ho : hget s.hp k = some (.var ty cells)) (hi : cells.getD i .dead = .t (.v (.slice none 0 0))) (hi2 : i < cells.length) (hk : hget s.hp key = none) (hkk : k ≠ key) : Weak s ⟨s.sl, hset (hset s.hp key (.row e n [])) k (.var ty (cells.set i (.own key 0)))⟩ := by
  intro nn E a w h
  obtain ⟨⟨c, hC, hS⟩, h3, h4⟩ := h
  obtain ⟨g1, g2, g3⟩ := hC.adopt key hk e n hn none
  have ho' : hget (hset s.hp key (.row e n [])) k = some (.var ty cells) := by rw [hget_hset, if_neg (Ne.symm hkk)]; exact ho
  obtain ⟨k1, k2⟩ := g1.revar ho' (cells' := cells.set i (.own key 0)) (by simp) (fun v j hj hr => by
    by_cases e1 : i = j
    · subst e1
      rw [hi] at hr
      have ev := exC_eq hr (y := .slice none 0 0) rfl
      have e2 : (cells.set i (.own key 0)).getD i .dead = .own key 0 := by simp [List.getD_eq_getElem?_getD, hi2]
      rw [e2, ev]; exact g3
    · have e2 : (cells.set i (.own key 0)).getD j .dead = cells.getD j .dead := by simp [List.getD_eq_getElem?_getD, List.getElem?_set_ne e1]
      rw [e2]; exact hr)
  exact ⟨⟨_, k1, fun t' => ((hS t').later g2).later k2⟩, h3, h4⟩
section
variable {P : Program} {dst : Option Tmp} {ty0 : TypeId} {pos : String} {af : Array Edge} {g : Option (Nat × Bool)} {ρ : Operand → AV} {H : AHeap}
/-- what a function comes to, of data alone, changing nothing -/
def FxPure (P : Program) (f : FuncId) (args : List AV) (r : AV) : Prop :=
  ∀ (A : Nat → Nat → Prop) (w : World) (vals : List Value), (∀ b i, A b i → b < w.heap.size) → vals.length = args.length → (∀ i, i < args.length → VRep ⟨fun _ => undef, A⟩ [] w (vals.getD i undef) (args.getD i .dead)) →
    Calls P f vals.toArray w fun e w' => ∃ v A', e = .returned v ∧ Grew w w' ∧ (∀ b i, A b i → A' b i) ∧ (∀ b i, A' b i → A b i ∨ (w.heap.size ≤ b ∧ b < w'.heap.size)) ∧ VRep ⟨fun _ => undef, A'⟩ [] w' v r
def goB (P : Program) (f : FuncId) : Bool :=
  match P.funcs[f]? with
  | some fn => fn.name != "runtime.NumGoroutine" && fn.body.isSome
  | none => false
class Goes (P : Program) (f : FuncId) : Prop where
  h : goB P f = true
theorem run_callFunc {f : FuncId} (h : goB P f = true) (args : Array Value) (w : World) : (callFunc f args).run P w = .ok (.enter f args) w := by
  unfold goB at h
  split at h
  · rename_i fn hf
    simp only [Bool.and_eq_true, bne_iff_ne] at h
    obtain ⟨h1, h2⟩ := h
    cases hb : fn.body with
    | none => rw [hb] at h2; cases h2
    | some b => simp [callFunc, Go.program, Sem.run, hf, h1, hb]
  · cases h
theorem step_call (f : FuncId) (xs : List Operand) {args : List AV} {r : AV} {ats : Array TypeId} [hG : Goes P f] (h : FxPure P f args r) (hc : CoeA (xs.map ρ) args) (hok : okAL [] args = true) : StepK P .p ⟨dst, .call { callee := .value (.func f), args := xs.toArray, argTypes := ats }, ty0, pos, af, g⟩ ρ H H r :=
  ⟨rfl, fun H2 E c a w K Q hC hx hK => by
    have hlen : args.length = xs.length := by have := hc.get.1; simp at this; omega
    have hargs : ∀ i, i < args.length → VRep ⟨fun _ => undef, c.A⟩ [] w ((xs.map a.eval).getD i undef) (args.getD i .dead) := fun i hi => by
      have hi' : i < xs.length := by omega
      have h1 := hx xs[i] (by simp [Op.operands, Call.operands])
      have h2 := hc.get.2 i hi c H2 w (a.eval xs[i]) (by
        have e : (xs.map ρ).getD i .dead = ρ xs[i] := by simp [List.getD_eq_getElem?_getD, List.getElem?_map, List.getElem?_eq_getElem hi']
        rw [e]; exact h1)
      have e : (xs.map a.eval).getD i undef = a.eval xs[i] := by simp [List.getD_eq_getElem?_getD, List.getElem?_map, List.getElem?_eq_getElem hi']
      rw [e]
      exact h2.sub (m := fun _ => undef) (A' := c.A) (H1 := []) (fun k o h => (by cases h)) (fun k o h => (by cases h)) (fun _ _ h => h) (okAL_get _ _ hok)
    have hcall := h c.A w (xs.map a.eval) hC.lt (by simp [hlen]) hargs
    unfold Oper.wp
    have hrun : (execOp a.eval ⟨dst, .call { callee := .value (.func f), args := xs.toArray, argTypes := ats }, ty0, pos, af, g⟩).run P w = .ok (.enter f (xs.map a.eval).toArray) w := by
      simp [execOp, resolve, Deferred.ofValue, invoke, Act.eval, run_callFunc hG.h]
    rw [hrun]
    show Calls P f _ w _
    refine hcall.mono ?_
    rintro e w' ⟨v, A', rfl, hg, h1, h2, h3⟩
    obtain ⟨k1, k2⟩ := hC.grew hg A' h1 h2
    have hl : Later ⟨fun _ => undef, A'⟩ [] w' ⟨c.m, A'⟩ H2 w' := ⟨fun k t cl h => (by cases h), fun k t n rows h => (by cases h), fun b i v h1 h2 => ⟨h1, h2⟩⟩
    exact hK v ⟨c.m, A'⟩ w' k1 k2 (h3.later hl)⟩
/-- what a result's variable holds -/
inductive ResV (P : Program) (s : ASt) : ResultVar → AV → Prop where
  | tmp (t : Tmp) (x : AV) (h : sget s.sl t = x) : ResV P s (.tmp t) x
  | cell (a : Tmp) (ty : TypeId) (k : Nat) (vt : TypeId) (cells : List CV) (agg : Bool) (n : Nat) (h1 : sget s.sl a = .c (.ptr k 0)) (h2 : hget s.hp k = some (.var vt cells)) (h3 : shapeB P ty agg n = true) (h4 : agg = false → n = 1) (h5 : n ≤ cells.length) : ResV P s (.cell a ty) (takeAV agg n cells 0)
inductive ResL (P : Program) (s : ASt) : List ResultVar → List AV → Prop where
  | nil : ResL P s [] []
  | cons {r : ResultVar} {x : AV} {l : List ResultVar} {k : List AV} (h : ResV P s r x) (t : ResL P s l k) : ResL P s (r :: l) (x :: k)
def resOf : List AV → AV
  | [x] => x
  | l => .tup l
theorem resV_run {s : ASt} {E : Ent} {c : Cx} {w : World} {a : Act} (hC : Conc E c s.hp w) (hS : SlotsRep c s.hp w a s.sl) {r : ResultVar} {x : AV} (h : ResV P s r x) :
    ∃ v, ((match r with | .tmp t => pure (a.tmps.getD t undef) | .cell b t => do loadVar t (← asAddr (a.tmps.getD b undef)) : Sem Value)).run P w = .ok v w ∧ VRep c s.hp w v x := by
  cases h with
  | tmp t x h => exact ⟨_, rfl, h ▸ hS t⟩
  | cell b ty k vt cells agg n h1 h2 h3 h4 h5 =>
    have hv := hS b
    rw [h1] at hv
    obtain ⟨bb, ty', cells', e, ho', hm⟩ := cptr hv
    obtain ⟨b', cs, g1, g2, g3, g4, g5⟩ := hC.obj k _ h2
    have hbb : b' = bb := by rw [hm] at g1; injection g1 with g1; injection g1 with g1; injection g1 with g1; exact g1.symm
    subst hbb
    have hcell : ∀ j, j < n → w.cell? ⟨b', 0 + j, none⟩ = some (((List.range n).map fun j => cs.getD (0 + j) undef).getD j undef) := fun j hj => by
      have hlt : j < cs.size := by omega
      simp [World.cell?, g2, hlt, List.getD_eq_getElem?_getD, List.getElem?_map, List.getElem?_range hj]
    have hrun := run_loadVar_cells (P := P) h3 h4 w b' 0 ((List.range n).map fun j => cs.getD (0 + j) undef) (by simp) hcell
    refine ⟨_, ?_, take_rep (l := cells) (i := 0) (cs := (List.range n).map fun j => cs.getD (0 + j) undef) (by simp) h4 (by omega) (fun j hj => ?_)⟩
    · simp only [e, asAddr, Sem.run_bind, Sem.run_pure, Result.andThen_ok, hrun]
    · have := g4 (0 + j) (by omega)
      simpa [List.getD_eq_getElem?_getD, List.getElem?_map, List.getElem?_range hj] using this
theorem resL_run {s : ASt} {E : Ent} {c : Cx} {w : World} {a : Act} (hC : Conc E c s.hp w) (hS : SlotsRep c s.hp w a s.sl) {rs : List ResultVar} {xs : List AV} (h : ResL P s rs xs) :
    ∃ vs : List Value, (rs.mapM fun r => (match r with | .tmp t => pure (a.tmps.getD t undef) | .cell b t => do loadVar t (← asAddr (a.tmps.getD b undef)) : Sem Value)).run P w = .ok vs w ∧ vs.length = xs.length ∧ ∀ i, i < xs.length → VRep c s.hp w (vs.getD i undef) (xs.getD i .dead) := by
  induction h with
  | nil => exact ⟨[], by simp, rfl, fun i hi => absurd hi (Nat.not_lt_zero _)⟩
  | cons h t ih =>
    obtain ⟨v, h1, h2⟩ := resV_run hC hS h
    obtain ⟨vs, h3, h4, h5⟩ := ih
    refine ⟨v :: vs, ?_, by simp [h4], fun i hi => ?_⟩
    · rw [List.mapM_cons]
      simp only [Sem.run_bind, h1, Result.andThen_ok, h3, Sem.run_pure]
    · cases i with
      | zero => simpa using h2
      | succ i => simpa using h5 i (by simpa using hi)
/-- what is handed back -/
def retQ (P : Program) (rs : List ResultVar) (r : AV) : AEx → ASt → Prop
  | .exit _, _ => False
  | _, s => ∃ xs, ResL P s rs xs ∧ Coe (resOf xs) r ∧ okAV [] r = true
def slotsFrom (k : Nat) : List AV → Slots
  | [] => []
  | x :: t => (k, x) :: slotsFrom (k + 1) t
theorem slotsFrom_get : ∀ (l : List AV) (k t : Nat), sget (slotsFrom k l) t = if k ≤ t then l.getD (t - k) .dead else .dead := by
  intro l
  induction l with
  | nil => intro k t; simp [slotsFrom, sget]
  | cons x u ih =>
    intro k t
    unfold slotsFrom sget
    by_cases h : k = t
    · subst h; simp
    · rw [if_neg h, ih]
      by_cases h2 : k ≤ t
      · rw [if_pos (by omega), if_pos h2]
        have e : t - k = (t - (k + 1)) + 1 := by omega
        rw [e]; simp
      · rw [if_neg (by omega), if_neg h2]
def LenAV : AV → Prop
  | .c (.t x) => LenOk x
  | .agg l => ∀ x, CV.t x ∈ l → LenOk x
  | _ => True
theorem lens_of {c : Cx} {H : AHeap} {w : World} {v : Value} {x : AV} (h : VRep c H w v x) : LenAV x := by
  cases h with
  | dead v => trivial
  | c h => cases h with
    | t h => exact h.lens
    | _ => trivial
  | agg cs l h1 h2 =>
    intro x hx
    obtain ⟨i, hi, e⟩ := List.mem_iff_getElem.1 hx
    have := h2 i hi
    have e2 : l.getD i .dead = .t x := by simp [List.getD_eq_getElem?_getD, List.getElem?_eq_getElem hi, e]
    rw [e2] at this
    exact (crep_t this).lens
  | tup vs l h1 h2 => trivial
/-- a function's law, from its body's -/
theorem fx_pure {f : FuncId} {fn : Func} {code : Code} {rs : List ResultVar} (n : Nat) {args : List AV} {r : AV} (hf : P.funcs[f]? = some fn) (hb : fn.body = some code) (hr : fn.results = rs.toArray) (hn : args.length + (fn.ntmps - args.length) = n) (hok : okAL [] args = true) (h : (∀ x ∈ args, LenAV x) → awp P n code (retQ P rs r) ⟨slotsFrom 0 args, []⟩) : FxPure P f args r := by
  intro A w vals hlt hvl hv
  refine calls_of_wp hf hb ?_
  have hS : SlotsRep ⟨fun _ => undef, A⟩ [] w { tmps := vals.toArray ++ Array.replicate (fn.ntmps - vals.toArray.size) undef, defers := [] } (slotsFrom 0 args) := fun t => by
    rw [slotsFrom_get, if_pos (Nat.zero_le _), Nat.sub_zero]
    by_cases ht : t < args.length
    · have := hv t ht
      have e : (vals.toArray ++ Array.replicate (fn.ntmps - vals.toArray.size) undef).getD t undef = vals.getD t undef := by
        have ht' : t < vals.length := by omega
        simp [List.getD_eq_getElem?_getD, Array.getElem?_append, ht']
      rw [e]; exact this
    · have e : args.getD t .dead = .dead := by simp [List.getD_eq_getElem?_getD]; rw [List.getElem?_eq_none (by omega)]; rfl
      rw [e]; exact .dead _
  have hlens : ∀ x ∈ args, LenAV x := fun x hx => by
    obtain ⟨i, hi, e⟩ := List.mem_iff_getElem.1 hx
    have := lens_of (hv i hi)
    simpa [List.getD_eq_getElem?_getD, List.getElem?_eq_getElem hi, e] using this
  have hC : Conc ⟨w, A, fun _ => False, fun _ => undef, []⟩ ⟨fun _ => undef, A⟩ [] w := ⟨fun k o h => (by cases h), fun k k' b h => absurd rfl h, hlt, fun b i h => ⟨id, hlt b i h⟩, fun b i h => h, fun b i h => .inl h, fun k b h => absurd rfl h, fun b _ _ => rfl, rfl, rfl, rfl, Nat.le_refl _, ⟨fun k o h => (by cases h), fun k ty cells h => (by cases h), fun k ty n rows h => (by cases h)⟩⟩
  have ht : Told n ⟨w, A, fun _ => False, fun _ => undef, []⟩ ⟨slotsFrom 0 args, []⟩ { tmps := vals.toArray ++ Array.replicate (fn.ntmps - vals.toArray.size) undef, defers := [] } w := ⟨⟨_, hC, hS⟩, by simp [hvl]; omega, rfl⟩
  have fin : ∀ a' w' s', Told n ⟨w, A, fun _ => False, fun _ => undef, []⟩ s' a' w' → (∃ xs, ResL P s' rs xs ∧ Coe (resOf xs) r ∧ okAV [] r = true) → a'.defers = [] ∧ ∃ v, (results fn a'.tmps).run P w' = .ok v w' ∧ ∃ v1 A', Ending.returned v = .returned v1 ∧ Grew w w' ∧ (∀ b i, A b i → A' b i) ∧ (∀ b i, A' b i → A b i ∨ (w.heap.size ≤ b ∧ b < w'.heap.size)) ∧ VRep ⟨fun _ => undef, A'⟩ [] w' v1 r := by
    rintro a' w' s' ⟨⟨c', hC', hS'⟩, _, hd⟩ ⟨xs, hx, hco, hkr⟩
    obtain ⟨vs, h1, h2, h3⟩ := resL_run hC' hS' hx
    have hres : (results fn a'.tmps).run P w' = .ok (if h : vs.toArray.size = 1 then vs.toArray[0] else .tuple vs.toArray) w' := by
      unfold results
      rw [hr, Array.mapM_eq_mapM_toList]
      simp only [map_eq_pure_bind, Sem.run_bind]
      erw [h1]
      simp only [Result.andThen_ok, Sem.run_pure]
    have hval : VRep c' s'.hp w' (if h : vs.toArray.size = 1 then vs.toArray[0] else .tuple vs.toArray) (resOf xs) := by
      by_cases h : vs.toArray.size = 1
      · rw [dif_pos h]
        have hx1 : xs.length = 1 := by rw [← h2]; simpa using h
        obtain ⟨x, hx2⟩ := List.length_eq_one_iff.1 hx1
        have hv1 : vs.length = 1 := by simpa using h
        have := h3 0 (by omega)
        rw [hx2] at this ⊢
        simpa [resOf, List.getD_eq_getElem?_getD, hv1] using this
      · rw [dif_neg h]
        have hx1 : xs.length ≠ 1 := by rw [← h2]; simpa using h
        have e : resOf xs = .tup xs := by
          rcases xs with _ | ⟨x, _ | ⟨y, t⟩⟩
          · rfl
          · exact absurd rfl hx1
          · rfl
        rw [e]
        exact .tup vs xs h2 h3
    refine ⟨hd, _, hres, _, c'.A, rfl, ⟨hC'.os, hC'.tape, hC'.output, hC'.size, fun b hb => hC'.keep b hb id⟩, hC'.le, fun b i hb => ?_, ?_⟩
    · rcases hC'.new b i hb with h | h | h
      · exact .inl h
      · exact .inr ⟨h, hC'.lt b i hb⟩
      · exact h.elim
    · exact (hco _ _ _ _ hval).sub (m := fun _ => undef) (A' := c'.A) (H1 := []) (fun k o h => (by cases h)) (fun k o h => (by cases h)) (fun _ _ h => h) hkr
  refine Code.wp_mono (fun e a' w' hq => ?_) (h hlens ⟨w, A, fun _ => False, fun _ => undef, []⟩ _ w ht)
  cases e <;> first | exact hq.elim | skip
  · obtain ⟨s', h1, h2⟩ := hq; exact fin a' w' s' h1 h2
  · obtain ⟨s', h1, h2⟩ := hq; exact h2.elim
  · obtain ⟨s', h1, h2⟩ := hq; exact fin a' w' s' h1 h2
end
end Go.Proofs.Ytiimkhnngpfnbaa.Fx
/- Steps of a walk on states. No program in sight. -/
namespace Go.Proofs.Ytiimkhnngpfnbaa.Fx
open Go.RowKit
set_option linter.unusedVariables false
set_option linter.unusedSimpArgs false
section
variable {P : Program} {n : Nat} {Q : AEx → ASt → Prop} {s : ASt}
def kdLe : Kd → Kd → Bool
  | .p, .p => true
  | .p, .r => true
  | .p, .w => true
  | .r, .r => true
  | .r, .w => true
  | .n, .n => true
  | .n, .w => true
  | .w, .w => true
  | _, _ => false
theorem StepK.up {k k' : Kd} {o : Oper} {ρ : Operand → AV} {H H' : AHeap} {v : AV} (hs : StepK P k o ρ H H' v) (hle : kdLe k k' = true) : StepK P k' o ρ H H' v := by
  cases k <;> cases k' <;> first | exact hs | (cases hle; done) | exact ⟨hs.1, fun H2 _ => hs.2 H2⟩ | exact hs.step
/-- a region in the text's order -/
def RunT (P : Program) (ops : Array Oper) : List Oper → ASt → (ASt → Prop) → Prop
  | [], s, K => K s
  | o :: r, s, K => (wanted1 ops s.sl o = some true ∧ ∃ v H', Step P o (ev s.sl) s.hp H' v ∧ RunT P ops r ⟨sput s.sl o.dst v, H'⟩ K) ∨ (wanted1 ops s.sl o = some false ∧ RunT P ops r ⟨sput s.sl o.dst (.tup []), s.hp⟩ K)
theorem runT_runL {ops : List Oper} {K : ASt → Prop} : ∀ (l : List Oper) (k : Nat) (s : ASt), (∀ j, l[j]? = ops[k + j]?) → RunT P ops.toArray l s K → RunL P ops.toArray ((List.range' k l.length).map fun i => (i, Kd.w)) s K := by
  intro l
  induction l with
  | nil => intro k s _ h; exact h
  | cons o r ih =>
    intro k s hk h
    have h0 : ops[k]? = some o := by simpa using (hk 0).symm
    have ih' := fun s => ih (k + 1) s (fun j => by have := hk (j + 1); simpa [Nat.add_assoc, Nat.add_comm 1 j] using this)
    rw [List.length_cons, List.range'_succ, List.map_cons]
    refine ⟨o, by simpa using h0, ?_⟩
    rcases h with ⟨hw, v, H', hs, h⟩ | ⟨hw, h⟩
    · exact .inl ⟨hw, v, H', hs, ih' _ h⟩
    · exact .inr ⟨hw, ih' _ h⟩
theorem awp_text {id : Nat} {ops : List Oper} (hd : dstsOk n ops.toArray = true) (h : RunT P ops.toArray ops s (fun s => Q .normal s)) : awp P n (.region id ops.toArray false) Q s :=
  awp_region ((List.range' 0 ops.length).map fun i => (i, Kd.w)) (by rw [List.map_map]; simp [Function.comp_def, List.range_eq_range']) hd (runT_runL ops 0 s (fun j => by simp) h)
/-- a known value's slot -/
theorem step_known {o : Oper} {ρ : Operand → AV} {H : AHeap} (hs : ∀ cs b, o.op ≠ .select cs b) (hx : ∀ x ∈ o.op.operands, (exAV (ρ x)).isSome = true) (y : Value) {v : AV} (hrun : ∀ w, (execOp (fun x => (exAV (ρ x)).getD undef) o).run P w = .ok (.value y) w) (hv : constAV y = v) : StepK P .p o ρ H H v := hv ▸ step_exact hs y hx hrun
end
end Go.Proofs.Ytiimkhnngpfnbaa.Fx
