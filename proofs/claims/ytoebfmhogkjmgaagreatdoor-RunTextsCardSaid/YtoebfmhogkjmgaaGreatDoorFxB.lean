/- The operations of a region, run on what the slots and variables hold, in one order for all. No program in sight. -/
import Derived.Test.YtoebfmhogkjmgaaGreatDoorFxA
import Derived.OrdersHeld
namespace Go.Proofs.YtoebfmhogkjmgaaGreatDoor.Fx
open Go.RowKit
set_option linter.unusedVariables false
set_option linter.unusedSimpArgs false
abbrev Slots := List (Nat × AV)
def sget : Slots → Nat → AV
  | [], _ => .dead
  | (k', o) :: h, k => if k' = k then o else sget h k
def sset : Slots → Nat → AV → Slots
  | [], k, o => [(k, o)]
  | (k', o') :: h, k, o => if k' = k then (k, o) :: h else (k', o') :: sset h k o
theorem sget_sset (H : Slots) (k k' : Nat) (o : AV) : sget (sset H k o) k' = if k = k' then o else sget H k' := by
  induction H with
  | nil => simp [sset, sget]
  | cons p t ih =>
    obtain ⟨q, u⟩ := p
    unfold sset
    by_cases h : q = k
    · subst h; simp only [if_true, sget]; split <;> rfl
    · simp only [if_neg h, sget, ih]
      by_cases h2 : q = k'
      · rw [if_pos h2, if_pos h2, if_neg (by omega)]
      · rw [if_neg h2, if_neg h2]
def sput (s : Slots) (d : Option Tmp) (v : AV) : Slots :=
  match d with
  | some d => sset s d v
  | none => s
theorem sget_sput (s : Slots) (d : Option Tmp) (v : AV) (t : Nat) : sget (sput s d v) t = if d = some t then v else sget s t := by
  cases d with
  | none => simp [sput]
  | some d => simp [sput, sget_sset]
/-- what a constant is -/
def constAV : Value → AV
  | .agg cs => if cs.toList.all (·.oneCell') then .agg (cs.toList.map fun x => .t (.v x)) else .dead
  | .tuple _ => .dead
  | v => .c (.t (.v v))
def ev (s : Slots) : Operand → AV
  | .tmp t => sget s t
  | .const v => constAV v
  | .global g => .c (.t (.v (.pointer (some ⟨g, 0, none⟩))))
  | .func f => .c (.fn (.func f) [] [])
def SlotsRep (c : Cx) (H : AHeap) (w : World) (a : Act) (s : Slots) : Prop := ∀ t, VRep c H w (a.tmps.getD t undef) (sget s t)
theorem constAV_rep (c : Cx) (H : AHeap) (w : World) (v : Value) : VRep c H w v (constAV v) := by
  unfold constAV
  split
  · rename_i cs
    split
    · rename_i h
      rw [List.all_eq_true] at h
      have e : Value.agg cs = .agg cs.toList.toArray := by simp
      rw [e]
      refine .agg _ _ (by simp) (fun i hi => ?_)
      have hi' : i < cs.toList.length := by simpa using hi
      have e1 : (cs.toList.map fun x => CV.t (.v x)).getD i .dead = .t (.v cs.toList[i]) := by simp [List.getD_eq_getElem?_getD, List.getElem?_map, List.getElem?_eq_getElem hi']
      have e2 : cs.toList.getD i undef = cs.toList[i] := by simp [List.getD_eq_getElem?_getD, List.getElem?_eq_getElem hi']
      rw [e1, e2]
      exact .t (.v _ (h _ (List.getElem_mem hi')))
    · exact .dead _
  · exact .dead _
  · rename_i h1 h2
    refine .c (.t (.v _ ?_))
    cases v <;> first | rfl | (exfalso; first | exact h1 _ rfl | exact h2 _ rfl)
theorem ev_rep {c : Cx} {H : AHeap} {w : World} {a : Act} {s : Slots} (h : SlotsRep c H w a s) (x : Operand) : VRep c H w (a.eval x) (ev s x) := by
  cases x with
  | tmp t => exact h t
  | const v => exact constAV_rep c H w v
  | global g => exact .c (.t (.v _ rfl))
  | func f => exact .c (.fn (.func f) [] [] [] [] rfl rfl (fun i hi => absurd hi (Nat.not_lt_zero _)) (fun i hi => absurd hi (Nat.not_lt_zero _)))
/-- an operation, run: from the heap H to H', and its value; whatever stands in the slots that it does not look at -/
def Step (P : Program) (o : Oper) (ρ : Operand → AV) (H H' : AHeap) (v : AV) : Prop :=
  ∀ (E : Ent) (c : Cx) (a : Act) (w : World) (K : Act → World → Prop) (Q : Exit → Act → World → Prop), Conc E c H w → (∀ x ∈ o.op.operands, VRep c H w (a.eval x) (ρ x)) →
    (∀ val c' w', Conc E c' H' w' → Later c H w c' H' w' → VRep c' H' w' val v → K (a.put o.dst val) w') → o.wp P a w K Q
/-- the same objects, as far as they are named -/
def SubH (H1 H : AHeap) : Prop := ∀ k o, hget H1 k = some o → hget H k = some o
/-- p: it looks at no variable, and changes none; r: it changes none; n: it makes one; w: any -/
inductive Kd where
  | p | r | n | w
  deriving DecidableEq
def StepK (P : Program) (k : Kd) (o : Oper) (ρ : Operand → AV) (H H' : AHeap) (v : AV) : Prop :=
  match k with
  | .p => H' = H ∧ ∀ H2, Step P o ρ H2 H2 v
  | .r => H' = H ∧ ∀ H2, SubH H H2 → Step P o ρ H2 H2 v
  | .n => ∃ d obj, hget H d = none ∧ H' = hset H d obj ∧ ∀ H2, hget H2 d = none → Step P o ρ H2 (hset H2 d obj) v
  | .w => Step P o ρ H H' v
theorem StepK.step {P : Program} {k : Kd} {o : Oper} {ρ : Operand → AV} {H H' : AHeap} {v : AV} (h : StepK P k o ρ H H' v) : Step P o ρ H H' v := by
  cases k with
  | p => obtain ⟨rfl, h⟩ := h; exact h _
  | r => obtain ⟨rfl, h⟩ := h; exact h _ (fun _ _ h => h)
  | n => obtain ⟨d, obj, h1, rfl, h⟩ := h; exact h _ h1
  | w => exact h
theorem Step.congr {P : Program} {o : Oper} {ρ ρ' : Operand → AV} {H H' : AHeap} {v : AV} (h : ∀ x ∈ o.op.operands, ρ x = ρ' x) (hs : Step P o ρ H H' v) : Step P o ρ' H H' v :=
  fun E c a w K Q hC hx hK => hs E c a w K Q hC (fun x hm => by rw [h x hm]; exact hx x hm) hK
theorem StepK.congr {P : Program} {k : Kd} {o : Oper} {ρ ρ' : Operand → AV} {H H' : AHeap} {v : AV} (h : ∀ x ∈ o.op.operands, ρ x = ρ' x) (hs : StepK P k o ρ H H' v) : StepK P k o ρ' H H' v := by
  cases k with
  | p => exact ⟨hs.1, fun H2 => (hs.2 H2).congr h⟩
  | r => exact ⟨hs.1, fun H2 h2 => (hs.2 H2 h2).congr h⟩
  | n => obtain ⟨d, obj, h1, h2, h3⟩ := hs; exact ⟨d, obj, h1, h2, fun H2 h4 => (h3 H2 h4).congr h⟩
  | w => exact Step.congr h hs
/-- is the operation wanted? -/
def wanted1 (ops : Array Oper) (s : Slots) (o : Oper) : Option Bool :=
  match o.guard with
  | none => some true
  | some (j, want) =>
    match (ops[j]?).bind (·.dst) with
    | none => some false
    | some d =>
      match sget s d with
      | .c (.t (.v (.bool b))) => some (b == want)
      | .tup [] => some false
      | _ => none
theorem wanted1_rep {c : Cx} {H : AHeap} {w : World} {a : Act} {s : Slots} {ops : Array Oper} {o : Oper} {b : Bool} (h : SlotsRep c H w a s) (hw : wanted1 ops s o = some b) : Region.wanted o (yielded ops a.tmps) = b := by
  unfold wanted1 at hw
  unfold Region.wanted
  split at hw
  · rename_i hg; rw [hg]; injection hw
  · rename_i j want hg
    rw [hg]
    simp only
    unfold yielded
    split at hw
    · rename_i hd; rw [hd]; simp only [Option.bind_none]; injection hw
    · rename_i d hd
      rw [hd]
      simp only [Option.bind_some]
      have hd2 := h d
      split at hw
      · rename_i b2 hb
        rw [hb] at hd2
        injection hw with hw
        generalize hq : a.tmps.getD d undef = q at hd2
        cases hd2 with
        | c h2 => cases h2 with
          | t h3 =>
            cases h3
            have : a.tmps[d]? = some (.bool b2) := by
              rw [Array.getD_eq_getD_getElem?] at hq
              cases e : a.tmps[d]? with
              | none => rw [e] at hq; cases hq
              | some u => rw [e] at hq; simp at hq; rw [hq]
            rw [this]
            simp only
            rw [← hw]; cases b2 <;> cases want <;> rfl
      · rename_i hb
        rw [hb] at hd2
        injection hw with hw
        generalize hq : a.tmps.getD d undef = q at hd2
        cases hd2 with
        | tup vs l hl _ =>
          have : a.tmps[d]? = none ∨ a.tmps[d]? = some (.tuple vs.toArray) := by
            rw [Array.getD_eq_getD_getElem?] at hq
            cases e : a.tmps[d]? with
            | none => exact .inl rfl
            | some u => rw [e] at hq; simp at hq; rw [hq]; exact .inr rfl
          rcases this with e | e <;> rw [e] <;> simp only <;> rw [← hw] <;> rfl
      · cases hw
structure ASt where
  sl : Slots
  hp : AHeap
/-- the operations, one behind the other -/
def RunL (P : Program) (ops : Array Oper) : List (Nat × Kd) → ASt → (ASt → Prop) → Prop
  | [], s, K => K s
  | (i, k) :: r, s, K => ∃ o, ops[i]? = some o ∧
      ((wanted1 ops s.sl o = some true ∧ ∃ v H', StepK P k o (ev s.sl) s.hp H' v ∧ RunL P ops r ⟨sput s.sl o.dst v, H'⟩ K) ∨
       (wanted1 ops s.sl o = some false ∧ RunL P ops r ⟨sput s.sl o.dst (.tup []), s.hp⟩ K))
/-- the same in all slots -/
def Same (s s' : ASt) : Prop := (∀ t, sget s.sl t = sget s'.sl t) ∧ s.hp = s'.hp
theorem Same.refl (s : ASt) : Same s s := ⟨fun _ => rfl, rfl⟩
theorem Same.ev {s s' : ASt} (h : Same s s') : ev s.sl = ev s'.sl := by
  funext x; cases x with
  | tmp t => exact h.1 t
  | _ => rfl
theorem Same.wanted {s s' : ASt} (h : Same s s') (ops : Array Oper) (o : Oper) : wanted1 ops s.sl o = wanted1 ops s'.sl o := by
  unfold wanted1
  split
  · rfl
  · rename_i j want hg
    cases hd : (ops[j]?).bind (·.dst) with
    | none => rfl
    | some d => simp only [h.1 d]
theorem Same.put {s s' : ASt} (h : Same s s') (d : Option Tmp) (v : AV) (H : AHeap) : Same ⟨sput s.sl d v, H⟩ ⟨sput s'.sl d v, H⟩ :=
  ⟨fun t => by simp only [sget_sput]; rw [h.1 t], rfl⟩
theorem RunL.same {P : Program} {ops : Array Oper} {K : ASt → Prop} (hK : ∀ s s', Same s s' → K s → K s') : ∀ (L : List (Nat × Kd)) (s s' : ASt), Same s s' → RunL P ops L s K → RunL P ops L s' K := by
  intro L
  induction L with
  | nil => intro s s' h hr; exact hK s s' h hr
  | cons x r ih =>
    obtain ⟨i, k⟩ := x
    intro s s' h hr
    obtain ⟨o, ho, hr⟩ := hr
    refine ⟨o, ho, ?_⟩
    rw [← h.wanted ops o, ← h.ev, ← h.2]
    rcases hr with ⟨hw, v, H', hs, hr⟩ | ⟨hw, hr⟩
    · exact .inl ⟨hw, v, H', hs, ih _ _ (h.put _ _ _) hr⟩
    · exact .inr ⟨hw, ih _ _ (by rw [h.2]; exact h.put _ _ _) hr⟩
def kindOk : Kd → Kd → Bool
  | .p, _ => true
  | _, .p => true
  | .r, .r => true
  | .r, .n => true
  | _, _ => false
theorem ev_put {ops : Array Oper} {s : Slots} {d : Option Tmp} {v : AV} {o : Oper} (h : ∀ x, d = some x → x ∉ o.looksAt ops) : ∀ x ∈ o.op.operands, ev (sput s d v) x = ev s x := by
  intro x hx
  cases x with
  | tmp t =>
    show sget (sput s d v) t = sget s t
    rw [sget_sput]
    split
    · rename_i e
      exact (h t e (List.mem_append_left _ (List.mem_filterMap.2 ⟨.tmp t, Array.mem_toList_iff.2 hx, rfl⟩))).elim
    · rfl
  | _ => rfl
theorem wanted_put1 {ops : Array Oper} {s : Slots} {d : Option Tmp} {v : AV} {o : Oper} (h : ∀ x, d = some x → x ∉ o.looksAt ops) : wanted1 ops (sput s d v) o = wanted1 ops s o := by
  unfold wanted1
  split
  · rfl
  · rename_i j want hg
    cases hd : (ops[j]?).bind (·.dst) with
    | none => rfl
    | some e =>
      have e3 : sget (sput s d v) e = sget s e := by
        rw [sget_sput, if_neg]
        intro e2
        refine h e e2 (List.mem_append_right _ ?_)
        rw [hg]; simp [hd]
      simp only [e3]
theorem RunL.swap {P : Program} {ops : Array Oper} {K : ASt → Prop} (hK : ∀ s s', Same s s' → K s → K s') {x i : Nat} {κ ι : Kd} {R : List (Nat × Kd)} {s : ASt} {ox oi : Oper} (hx : ops[x]? = some ox) (hi : ops[i]? = some oi)
    (ha : ox.apart ops oi = true) (hk : kindOk κ ι = true) (h : RunL P ops ((x, κ) :: (i, ι) :: R) s K) : RunL P ops ((i, ι) :: (x, κ) :: R) s K := by
  obtain ⟨a1, a2, a3⟩ := Oper.apart_spec ha
  obtain ⟨o, ho, h⟩ := h
  rw [hx] at ho; injection ho with ho; subst ho
  refine ⟨oi, hi, ?_⟩
  have hsame : ∀ (sl : Slots) (vx vi : AV) (H : AHeap), Same ⟨sput (sput sl ox.dst vx) oi.dst vi, H⟩ ⟨sput (sput sl oi.dst vi) ox.dst vx, H⟩ := fun sl vx vi H => ⟨fun t => by
    simp only [sget_sput]
    by_cases e1 : oi.dst = some t
    · rw [if_pos e1, if_neg (fun e => a2 t e e1), if_pos e1]
    · rw [if_neg e1]
      by_cases e2 : ox.dst = some t
      · rw [if_pos e2, if_pos e2]
      · rw [if_neg e2, if_neg e2, if_neg e1], rfl⟩
  rcases h with ⟨hw, v, H', hs, o2, ho2, h⟩ | ⟨hw, o2, ho2, h⟩ <;> (rw [hi] at ho2; injection ho2 with ho2; subst ho2; dsimp only at h; rw [wanted_put1 a1] at h)
  · rcases h with ⟨hw2, v2, H2, hs2, h⟩ | ⟨hw2, h⟩
    · have hs2' := hs2.congr (ev_put (s := s.sl) (d := ox.dst) (v := v) a1)
      have key : ∃ Hm, StepK P ι oi (ev s.sl) s.hp Hm v2 ∧ StepK P κ ox (ev s.sl) Hm H2 v := by
        cases κ with
        | p =>
          obtain ⟨rfl, hp⟩ := hs
          exact ⟨H2, hs2', rfl, hp⟩
        | r => cases ι with
          | p => obtain ⟨rfl, hp⟩ := hs2'; exact ⟨s.hp, ⟨rfl, hp⟩, hs⟩
          | r =>
            obtain ⟨rfl, h1⟩ := hs
            obtain ⟨rfl, h2⟩ := hs2'
            exact ⟨_, ⟨rfl, h2⟩, rfl, h1⟩
          | n =>
            obtain ⟨rfl, h1⟩ := hs
            obtain ⟨d, obj, g1, rfl, g2⟩ := hs2'
            refine ⟨_, ⟨d, obj, g1, rfl, g2⟩, rfl, fun H3 h3 => h1 H3 (fun k o hk => h3 k o ?_)⟩
            rw [hget_hset]
            split
            · rename_i e; subst e; rw [g1] at hk; cases hk
            · exact hk
          | w => cases hk
        | n => cases ι with
          | p => obtain ⟨rfl, hp⟩ := hs2'; exact ⟨s.hp, ⟨rfl, hp⟩, hs⟩
          | r => cases hk
          | n => cases hk
          | w => cases hk
        | w => cases ι with
          | p => obtain ⟨rfl, hp⟩ := hs2'; exact ⟨s.hp, ⟨rfl, hp⟩, hs⟩
          | r => cases hk
          | n => cases hk
          | w => cases hk
      obtain ⟨Hm, k1, k2⟩ := key
      refine .inl ⟨hw2, v2, Hm, k1, ox, hx, .inl ⟨by dsimp only; rw [wanted_put1 a3]; exact hw, v, H2, ?_, RunL.same hK _ _ _ (hsame _ _ _ _) h⟩⟩
      exact k2.congr (fun y hy => (ev_put a3 y hy).symm)
    · refine .inr ⟨hw2, ox, hx, .inl ⟨by dsimp only; rw [wanted_put1 a3]; exact hw, v, H', ?_, RunL.same hK _ _ _ (hsame _ _ _ _) h⟩⟩
      exact hs.congr (fun y hy => (ev_put a3 y hy).symm)
  · rcases h with ⟨hw2, v2, H2, hs2, h⟩ | ⟨hw2, h⟩
    · have hs2' := hs2.congr (ev_put (s := s.sl) (d := ox.dst) (v := .tup []) a1)
      exact .inl ⟨hw2, v2, H2, hs2', ox, hx, .inr ⟨by dsimp only; rw [wanted_put1 a3]; exact hw, RunL.same hK _ _ _ (hsame _ _ _ _) h⟩⟩
    · exact .inr ⟨hw2, ox, hx, .inr ⟨by dsimp only; rw [wanted_put1 a3]; exact hw, RunL.same hK _ _ _ (hsame _ _ _ _) h⟩⟩
/-- a number, worked out before it is used -/
def forceN {α : Type} (n : Nat) (k : Nat → α) : α := match n with | 0 => k 0 | m + 1 => k (m + 1)
theorem forceN_eq {α : Type} (n : Nat) (k : Nat → α) : forceN n k = k n := by cases n <;> rfl
/-- behind which others each operation stands, bit by bit, 256 bits an operation -/
def rowN (M i : Nat) : Nat := (M >>> (256 * i)) % 2 ^ 256
def maskE (M : Nat) (s : Nat) (e : Edge) : Nat := if Region.binds .any e then s ||| 2 ^ e.on ||| rowN M e.on else s
def maskN : List Oper → Nat → Nat → Nat
  | [], _, M => M
  | o :: t, i, M => forceN (M ||| ((o.after.toList.foldl (maskE M) 0 % 2 ^ 256) <<< (256 * i))) fun M' => maskN t (i + 1) M'
def bitN (M i x : Nat) : Bool := decide (x < 256) && M.testBit (256 * i + x)
def pairOk (ops : Array Oper) (ms : Nat) (x i : Nat × Kd) : Bool :=
  match ops[x.1]?, ops[i.1]? with
  | some ox, some oi => x.1 != i.1 && !(ox.after.any fun e => Region.binds .any e && e.on == i.1) && ((ox.apart ops oi && kindOk x.2 i.2) || bitN ms i.1 x.1)
  | _, _ => false
def pairsOk (ops : Array Oper) (ms : Nat) : List (Nat × Kd) → Bool
  | [] => true
  | x :: t => t.all (pairOk ops ms x) && pairsOk ops ms t
def selfOk (ops : Array Oper) (x : Nat × Kd) : Bool :=
  match ops[x.1]? with
  | some o => o.after.all (fun e => !Region.binds .any e || (e.on != x.1 && e.on < ops.size))
  | none => false
/-- may the operations come in any order? -/
def calm (ops : Array Oper) (order : List (Nat × Kd)) : Bool :=
  forceN (maskN ops.toList 0 0) (fun M => pairsOk ops M order) && (List.range ops.size).all (fun i => order.any (·.1 == i)) && order.all (selfOk ops)
def dstsOk (n : Nat) (ops : Array Oper) : Bool := ops.toList.all fun o => match o.dst with | some d => decide (d < n) | none => true
section
variable {P : Program} {ops : Array Oper} {Q : Exit → Act → World → Prop}
/-- what is listed holds what it stands behind -/
def Closed (ops : Array Oper) (L : Nat → Prop) : Prop := ∀ j, L j → ∀ o, ops[j]? = some o → ∀ e ∈ o.after, Region.binds .any e = true → L e.on
theorem rowN_bit (M i k : Nat) (h : k < 256) : (rowN M i).testBit k = M.testBit (256 * i + k) := by
  unfold rowN
  rw [Nat.testBit_mod_two_pow, Nat.testBit_shiftRight, decide_eq_true h, Bool.true_and]
theorem fold_mask (L : Nat → Prop) (M : Nat) (hM : ∀ x, L x → ∀ k, k < 256 → M.testBit (256 * x + k) = true → L k) : ∀ (l : List Edge) (s : Nat), (∀ e ∈ l, Region.binds .any e = true → L e.on) → (∀ k, k < 256 → s.testBit k = true → L k) →
    ∀ k, k < 256 → (l.foldl (maskE M) s).testBit k = true → L k := by
  intro l
  induction l with
  | nil => intro s _ hs k h1 hk; exact hs k h1 hk
  | cons e t ih =>
    intro s he hs k h1 hk
    rw [List.foldl_cons] at hk
    refine ih _ (fun e' h' hb => he e' (List.mem_cons_of_mem _ h') hb) ?_ k h1 hk
    intro k h1 hk
    unfold maskE at hk
    split at hk
    · rename_i hb
      have hl := he e List.mem_cons_self hb
      rw [Nat.testBit_or, Nat.testBit_or, Bool.or_eq_true, Bool.or_eq_true] at hk
      rcases hk with (hk | hk) | hk
      · exact hs k h1 hk
      · rw [Nat.testBit_two_pow] at hk
        have := of_decide_eq_true hk
        subst this; exact hl
      · rw [rowN_bit _ _ _ h1] at hk
        exact hM _ hl k h1 hk
    · exact hs k h1 hk
theorem maskN_spec {L : Nat → Prop} (hL : Closed ops L) : ∀ (l : List Oper) (i M : Nat), (∀ j, l[j]? = ops[i + j]?) →
    (∀ j, (∀ o, ops[j]? = some o → ∀ e ∈ o.after, Region.binds .any e = true → L e.on) → ∀ k, k < 256 → M.testBit (256 * j + k) = true → L k) →
    ∀ j, (∀ o, ops[j]? = some o → ∀ e ∈ o.after, Region.binds .any e = true → L e.on) → ∀ k, k < 256 → (maskN l i M).testBit (256 * j + k) = true → L k := by
  intro l
  induction l with
  | nil => intro i M _ h; exact h
  | cons o t ih =>
    intro i M hl hM
    unfold maskN
    rw [forceN_eq]
    have h0 : ops[i]? = some o := by have := hl 0; simpa using this.symm
    refine ih _ _ (fun j => ?_) (fun j hj k h1 hk => ?_)
    · have := hl (j + 1)
      rw [Nat.add_assoc, Nat.add_comm 1 j]
      simpa using this
    · rw [Nat.testBit_or, Bool.or_eq_true] at hk
      rcases hk with hk | hk
      · exact hM j hj k h1 hk
      · rw [Nat.testBit_shiftLeft, Bool.and_eq_true, Nat.testBit_mod_two_pow, Bool.and_eq_true] at hk
        obtain ⟨h2, h3, h4⟩ := hk
        have h2' := of_decide_eq_true h2
        have h3' := of_decide_eq_true h3
        have e : j = i := by omega
        subst e
        rw [show 256 * j + k - 256 * j = k by omega] at h4
        exact fold_mask L M (fun x hx k h1 hk => hM x (fun o ho e he hb => hL x hx o ho e he hb) k h1 hk) _ 0 (fun e he hb => hj o h0 e (Array.mem_toList_iff.1 he) hb) (fun k _ hk => by simp at hk) k h1 h4
theorem put_getD {a : Act} {d : Option Tmp} {v : Value} {n : Nat} (hn : a.tmps.size = n) (hd : ∀ x, d = some x → x < n) (t : Nat) : (a.put d v).tmps.getD t undef = if d = some t then v else a.tmps.getD t undef := by
  cases d with
  | none => simp [Act.put]
  | some d =>
    simp only [Act.put]
    have := hd d rfl
    by_cases h : d = t
    · subst h; simp [Array.getD_eq_getD_getElem?, Array.getElem?_setIfInBounds, hn, this]
    · rw [if_neg (fun e => h (by injection e))]
      simp [Array.getD_eq_getD_getElem?, Array.getElem?_setIfInBounds_ne h]
theorem put_rep {c : Cx} {H : AHeap} {w : World} {a : Act} {s : Slots} {d : Option Tmp} {val : Value} {v : AV} {n : Nat} (hn : a.tmps.size = n) (hd : ∀ x, d = some x → x < n) (h : SlotsRep c H w a s) (hv : VRep c H w val v) : SlotsRep c H w (a.put d val) (sput s d v) := by
  intro t
  rw [put_getD hn hd, sget_sput]
  split
  · exact hv
  · exact h t
theorem put_size (a : Act) (d : Option Tmp) (v : Value) : (a.put d v).tmps.size = a.tmps.size := by cases d <;> simp [Act.put]
theorem put_defers (a : Act) (d : Option Tmp) (v : Value) : (a.put d v).defers = a.defers := by cases d <;> rfl
/-- a state, told: of n slots, none deferred -/
structure Told (n : Nat) (E : Ent) (s : ASt) (a : Act) (w : World) : Prop where
  ex : ∃ c, Conc E c s.hp w ∧ SlotsRep c s.hp w a s.sl
  size : a.tmps.size = n
  defers : a.defers = []
theorem Told.same {n : Nat} {E : Ent} {s s' : ASt} {a : Act} {w : World} (h : Told n E s a w) (hs : Same s s') : Told n E s' a w := by
  obtain ⟨⟨c, h1, h2⟩, h3, h4⟩ := h
  refine ⟨⟨c, by rw [← hs.2]; exact h1, fun t => ?_⟩, h3, h4⟩
  rw [← hs.1 t, ← hs.2]; exact h2 t
theorem told_step {n : Nat} {E : Ent} {s : ASt} {a : Act} {w : World} {o : Oper} {H' : AHeap} {v : AV} (hd : ∀ x, o.dst = some x → x < n) (h : Told n E s a w) (hs : Step P o (ev s.sl) s.hp H' v) {K : Act → World → Prop}
    (hK : ∀ a' w', Told n E ⟨sput s.sl o.dst v, H'⟩ a' w' → K a' w') : o.wp P a w K Q := by
  obtain ⟨⟨c, h1, h2⟩, h3, h4⟩ := h
  refine hs E c a w K Q h1 (fun x _ => ev_rep h2 x) (fun val c' w' g1 g2 g3 => hK _ _ ⟨⟨c', g1, ?_⟩, by rw [put_size]; exact h3, by rw [put_defers]; exact h4⟩)
  exact put_rep h3 hd (fun t => (h2 t).later g2) g3
theorem told_skip {n : Nat} {E : Ent} {s : ASt} {a : Act} {w : World} {d : Option Tmp} (hd : ∀ x, d = some x → x < n) (h : Told n E s a w) : Told n E ⟨sput s.sl d (.tup []), s.hp⟩ (a.put d undef) w := by
  obtain ⟨⟨c, h1, h2⟩, h3, h4⟩ := h
  exact ⟨⟨c, h1, put_rep h3 hd h2 (.tup [] [] rfl (fun i hi => absurd hi (Nat.not_lt_zero _)))⟩, by rw [put_size]; exact h3, by rw [put_defers]; exact h4⟩
theorem dsts_spec {n : Nat} (h : dstsOk n ops = true) {i : Nat} {o : Oper} (ho : ops[i]? = some o) : ∀ x, o.dst = some x → x < n := by
  intro x hx
  have := List.all_eq_true.1 h o (by simpa using Array.mem_of_getElem? ho)
  rw [hx] at this
  exact of_decide_eq_true this
/-- in the text's order -/
theorem run_text {n : Nat} (hd : dstsOk n ops = true) {E : Ent} {K : ASt → Prop} (hK : ∀ s a w, Told n E s a w → K s → Q .normal a w) : ∀ (L : List (Nat × Kd)) (s : ASt) (a : Act) (w : World), Told n E s a w → RunL P ops L s K → wpOps P ops Q (L.map (·.1)) a w := by
  intro L
  induction L with
  | nil => intro s a w h hr; exact hK s a w h hr
  | cons x r ih =>
    obtain ⟨i, k⟩ := x
    intro s a w h hr
    obtain ⟨o, ho, hr⟩ := hr
    rw [List.map_cons, wpOps_cons]
    unfold wpOp
    rw [ho]
    simp only
    rcases hr with ⟨hw, v, H', hs, hr⟩ | ⟨hw, hr⟩
    · obtain ⟨c, _, h2⟩ := h.ex
      rw [wanted1_rep h2 hw, if_pos rfl]
      exact .inl (told_step (dsts_spec hd ho) h hs.step (fun a' w' h' => ih _ a' w' h' hr))
    · obtain ⟨c, _, h2⟩ := h.ex
      rw [wanted1_rep h2 hw, if_neg (by simp)]
      exact ih _ _ _ (told_skip (dsts_spec hd ho) h) hr
/-- one that may come up now may come first -/
theorem RunL.front {K : ASt → Prop} (hK : ∀ s s', Same s s' → K s → K s') {ms : Nat} {i : Nat} {ι : Kd} :
    ∀ (R1 R2 : List (Nat × Kd)) (s : ASt), (∀ x ∈ R1, pairOk ops ms x (i, ι) = true) → (∀ x ∈ R1, bitN ms i x.1 = false) → RunL P ops (R1 ++ (i, ι) :: R2) s K → RunL P ops ((i, ι) :: (R1 ++ R2)) s K := by
  intro R1
  induction R1 with
  | nil => intro R2 s _ _ h; exact h
  | cons x t ih =>
    obtain ⟨x, κ⟩ := x
    intro R2 s hp hm h
    have h2 : RunL P ops ((x, κ) :: (i, ι) :: (t ++ R2)) s K := by
      obtain ⟨o, ho, h⟩ := h
      refine ⟨o, ho, ?_⟩
      rcases h with ⟨hw, v, H', hs, h⟩ | ⟨hw, h⟩
      · exact .inl ⟨hw, v, H', hs, ih R2 _ (fun y hy => hp y (List.mem_cons_of_mem _ hy)) (fun y hy => hm y (List.mem_cons_of_mem _ hy)) h⟩
      · exact .inr ⟨hw, ih R2 _ (fun y hy => hp y (List.mem_cons_of_mem _ hy)) (fun y hy => hm y (List.mem_cons_of_mem _ hy)) h⟩
    have hpx := hp _ List.mem_cons_self
    have hmx := hm _ List.mem_cons_self
    unfold pairOk at hpx
    cases hox : ops[x]? with
    | none => rw [hox] at hpx; simp at hpx
    | some ox =>
      cases hoi : ops[i]? with
      | none => rw [hox, hoi] at hpx; simp at hpx
      | some oi =>
        rw [hox, hoi] at hpx
        dsimp only at hpx hmx
        rw [hmx, Bool.or_false, Bool.and_eq_true, Bool.and_eq_true] at hpx
        exact RunL.swap hK hox hoi (Bool.and_eq_true_iff.1 hpx.2).1 (Bool.and_eq_true_iff.1 hpx.2).2 h2
end
end Go.Proofs.YtoebfmhogkjmgaaGreatDoor.Fx
