/- Code, run on what slots and blocks hold. No program in sight. -/
import Derived.Test.YtoebfmhogkjmgaaGreatDoorGxB
import Derived.Recover
namespace Go.Proofs.YtoebfmhogkjmgaaGreatDoor.Gx
open Go.RowKit
open Fx (dstsOk maskN bitN)
set_option linter.unusedVariables false
set_option linter.unusedSimpArgs false
inductive GEx where
  | normal
  | exit (id : Nat)
  | ret
  deriving DecidableEq
def lift (n : Nat) (w0 : World) (m0 : GM) (Q : GEx → GSt → Prop) : Exit → Act → World → Prop
  | .normal, a, w => ∃ s, Told n w0 m0 s a w ∧ Q .normal s
  | .exit id, a, w => ∃ s, Told n w0 m0 s a w ∧ Q (.exit id) s
  | .ret, a, w => ∃ s, Told n w0 m0 s a w ∧ Q .ret s
  | _, _, _ => False
/-- what a piece of code comes to -/
def awp (P : Program) (n : Nat) (c : Code) (Q : GEx → GSt → Prop) (s : GSt) : Prop := ∀ w0 m0 a w, Told n w0 m0 s a w → c.wp P (lift n w0 m0 Q) a w
section
variable {P : Program} {n : Nat} {Q : GEx → GSt → Prop} {s : GSt}
theorem awp_skip (h : Q .normal s) : awp P n .skip Q s := fun w0 m0 a w ht => wp_skip ⟨s, ht, h⟩
theorem awp_ret (h : Q .ret s) : awp P n .ret Q s := fun w0 m0 a w ht => wp_ret ⟨s, ht, h⟩
theorem awp_exit {id : Nat} (h : Q (.exit id) s) : awp P n (.exit id) Q s := fun w0 m0 a w ht => wp_exit ⟨s, ht, h⟩
def thenG (K : GSt → Prop) (Q : GEx → GSt → Prop) : GEx → GSt → Prop
  | .normal, s => K s
  | e, s => Q e s
theorem awp_seq {x y : Code} (h : awp P n x (thenG (awp P n y Q) Q) s) : awp P n (.seq x y) Q s := fun w0 m0 a w ht =>
  wp_seq (Code.wp_mono (fun e a w hq => by
    cases e <;> first | exact hq.elim | skip
    · obtain ⟨s', h1, h2⟩ := hq; exact h2 w0 m0 a w h1
    · exact hq
    · exact hq) (h w0 m0 a w ht))
def inBlk (id : Nat) (Q : GEx → GSt → Prop) : GEx → GSt → Prop
  | .exit id', s => if id' = id then Q .normal s else Q (.exit id') s
  | e, s => Q e s
theorem awp_block {id : Nat} {c : Code} (h : awp P n c (inBlk id Q) s) : awp P n (.block id c) Q s := fun w0 m0 a w ht =>
  wp_block (Code.wp_mono (fun e a w hq => by
    cases e <;> first | exact hq.elim | skip
    · exact hq
    · rename_i id'
      obtain ⟨s', h1, h2⟩ := hq
      have h3 : if id' = id then Q .normal s' else Q (.exit id') s' := h2
      show if id' = id then _ else _
      split
      · rename_i e; rw [if_pos e] at h3; exact ⟨s', h1, h3⟩
      · rename_i e; rw [if_neg e] at h3; exact ⟨s', h1, h3⟩
    · exact hq) (h w0 m0 a w ht))
theorem awp_cond {c : Operand} {x y : Code} {b : Bool} (hc : ev s.sl c = .c (.v (.bool b))) (h : awp P n (if b then x else y) Q s) : awp P n (.cond c x y) Q s := fun w0 m0 a w ht => by
  obtain ⟨⟨m, g0, g1, g2, g4⟩, g3⟩ := ht
  have hv := ev_rep g2 c
  rw [hc] at hv
  have e : a.eval c = .bool b := by
    generalize a.eval c = q at hv
    cases hv with
    | c hv => cases hv; rfl
  refine wp_cond_split e (fun hb => ?_) (fun hb => ?_)
  · subst hb; exact h w0 m0 a w ⟨⟨m, g0, g1, g2, g4⟩, g3⟩
  · subst hb; exact h w0 m0 a w ⟨⟨m, g0, g1, g2, g4⟩, g3⟩
theorem awp_mono {c : Code} {Q' : GEx → GSt → Prop} (h : awp P n c Q s) (hq : ∀ e s, Q e s → Q' e s) : awp P n c Q' s := fun w0 m0 a w ht =>
  Code.wp_mono (fun e a w h => by
    cases e <;> first | exact h.elim | skip
    all_goals (obtain ⟨s', h1, h2⟩ := h; exact ⟨s', h1, hq _ _ h2⟩)) (h w0 m0 a w ht)
/-- rounds of a loop: each a state, the next behind it -/
inductive Rounds (P : Program) (n : Nat) (c : Code) (Q : GEx → GSt → Prop) : Nat → GSt → Prop where
  | last {k : Nat} {s : GSt} (h : awp P n c (thenG (fun _ => False) Q) s) : Rounds P n c Q k s
  | next {k : Nat} {s s' : GSt} (h : awp P n c (thenG (fun t => t = s') Q) s) (t : Rounds P n c Q k s') : Rounds P n c Q (k + 1) s
theorem awp_rounds {c : Code} {k : Nat} (h : Rounds P n c Q k s) : awp P n (.loop c) Q s := fun w0 m0 a w ht => by
  let p : Act → World → Nat → Prop := fun a w k => ∃ s, Told n w0 m0 s a w ∧ Rounds P n c Q k s
  refine wp_loop (fun a w => ∃ k, p a w k) (fun a w => Fx.leastOf (p a w)) ⟨k, s, ht, h⟩ (fun a w hI => ?_)
  obtain ⟨⟨s1, g1, g2⟩, _⟩ := Fx.leastOf_spec hI
  generalize hk : Fx.leastOf (p a w) = kk at g2
  cases g2 with
  | last h =>
    refine Code.wp_mono (fun e a' w' hq => ?_) (h w0 m0 a w g1)
    cases e <;> first | exact hq.elim | skip
    · obtain ⟨s2, k1, k2⟩ := hq; exact k2.elim
    · exact hq
    · exact hq
  | next h t =>
    rename_i k' s'
    refine Code.wp_mono (fun e a' w' hq => ?_) (h w0 m0 a w g1)
    cases e <;> first | exact hq.elim | skip
    · obtain ⟨s2, k1, k2⟩ := hq
      have k2' : s2 = s' := k2
      subst k2'
      refine ⟨⟨k', s2, k1, t⟩, ?_⟩
      have h2 := (Fx.leastOf_spec (p := p a' w') ⟨k', s2, k1, t⟩).2 k' ⟨s2, k1, t⟩
      have h2' : Fx.leastOf (p a' w') ≤ k' := h2
      first | omega | exact Nat.lt_of_le_of_lt h2' (by omega)
    · exact hq
    · exact hq
/-- the operations in the text's order: one may put a call off -/
def RunT (P : Program) (rc : Bool) (ops : Array Oper) : List Nat → GSt → (GSt → Prop) → Prop
  | [], s, K => K s
  | i :: r, s, K => ∃ o, ops[i]? = some o ∧
      ((wanted1 ops s.sl o = some true ∧ ∃ v H', Step P o (ev s.sl) s.hp H' v ∧ RunT P rc ops r ⟨uput s.sl o.dst v, H', s.df⟩ K) ∨
       (wanted1 ops s.sl o = some false ∧ RunT P rc ops r ⟨uput s.sl o.dst (.tup []), s.hp, s.df⟩ K) ∨
       (wanted1 ops s.sl o = some true ∧ ∃ f ats id fs cs, o.op = .defer { callee := .value f, args := #[], argTypes := ats } ∧ ev s.sl f = .c (.fn (.func id) fs cs) ∧ RunT P rc ops r ⟨uput s.sl o.dst (.tup []), s.hp, .fn (.func id) fs cs :: s.df⟩ K) ∨
       (wanted1 ops s.sl o = some true ∧ rc = true ∧ ∃ xs ats, o.op = .call { callee := .builtin .recover, args := xs, argTypes := ats } ∧ RunT P rc ops r ⟨uput s.sl o.dst (.c (.v .nilIface)), s.hp, s.df⟩ K))
theorem told_defer {w0 : World} {m0 : GM} {a : Act} {w : World} {o : Oper} {Q : Exit → Act → World → Prop} (hd : ∀ x, o.dst = some x → x < n) (h : Told n w0 m0 s a w) {f : Operand} {ats : Array TypeId} {id : FuncId} {fs cs : List GC} (ho : o.op = .defer { callee := .value f, args := #[], argTypes := ats }) (hf : ev s.sl f = .c (.fn (.func id) fs cs)) {K : Act → World → Prop}
    (hK : ∀ a' w', Told n w0 m0 ⟨uput s.sl o.dst (.tup []), s.hp, .fn (.func id) fs cs :: s.df⟩ a' w' → K a' w') : o.wp P a w K Q := by
  obtain ⟨⟨m, h0, h1, h2, h4⟩, h3⟩ := h
  have hv := ev_rep h2 f
  rw [hf] at hv
  generalize hval : a.eval f = q at hv
  cases hv with
  | c hv => cases hv with
    | fn f fs cs vs us g1 g2 gf gc =>
      have hrun : (execOp a.eval o).run P w = .ok (.defer { target := .fn (.func id) us.toArray, args := vs.toArray }) w := by
        obtain ⟨dst, op, ty0, pos, af, g⟩ := o
        simp only at ho
        subst ho
        simp [execOp, resolve, hval, Deferred.ofValue]
      unfold Oper.wp
      rw [hrun]
      show K _ w
      refine hK _ w ⟨⟨m, h0, h1, ?_, ?_, fun i hi => ?_⟩, ?_⟩
      · have := put_rep (a := { a with defers := { target := .fn (.func id) us.toArray, args := vs.toArray } :: a.defers }) (d := o.dst) (val := undef) (v := .tup []) h3 hd h2 (.tup [] [] rfl (fun i hi => absurd hi (Nat.not_lt_zero _)))
        exact this
      · rw [Fx.put_defers]; simp [h4.1]
      · rw [Fx.put_defers]
        cases i with
        | zero => exact ⟨id, fs, cs, vs.toArray, us.toArray, rfl, rfl, rfl, .fn (.func id) fs cs vs us g1 g2 gf gc⟩
        | succ i => simpa using h4.2 i (by simpa using hi)
      · rw [Fx.put_size]; exact h3
theorem run_textT {ops : Array Oper} {Q : Exit → Act → World → Prop} (hd : dstsOk n ops = true) {w0 : World} {m0 : GM} {K : GSt → Prop} (hK : ∀ s a w, Told n w0 m0 s a w → K s → Q .normal a w) : ∀ (L : List Nat) (s : GSt) (a : Act) (w : World), Told n w0 m0 s a w → RunT P false ops L s K → wpOps P ops Q L a w := by
  intro L
  induction L with
  | nil => intro s a w h hr; exact hK s a w h hr
  | cons i r ih =>
    intro s a w h hr
    obtain ⟨o, ho, hr⟩ := hr
    rw [wpOps_cons]
    unfold wpOp
    rw [ho]
    simp only
    obtain ⟨m, _, _, h2, _⟩ := h.ex
    rcases hr with ⟨hw, v, H', hs, hr⟩ | ⟨hw, hr⟩ | ⟨hw, f, ats, id, fs, cs, e1, e2, hr⟩ | ⟨_, hrc, _⟩
    · rw [wanted1_rep h2 hw, if_pos rfl]
      exact .inl (told_step (dsts_spec hd ho) h hs (fun a' w' h' => ih _ a' w' h' hr))
    · rw [wanted1_rep h2 hw, if_neg (by simp)]
      exact ih _ _ _ (told_skip (dsts_spec hd ho) h) hr
    · rw [wanted1_rep h2 hw, if_pos rfl]
      exact .inl (told_defer (dsts_spec hd ho) h e1 e2 (fun a' w' h' => ih _ a' w' h' hr))
    · cases hrc
theorem awp_region {id : Nat} {ops : Array Oper} (hd : dstsOk n ops = true) (h : RunT P false ops (List.range ops.size) s (fun s => Q .normal s)) : awp P n (.region id ops false) Q s := fun w0 m0 a w ht =>
  wp_region (run_textT (P := P) (ops := ops) (Q := lift n w0 m0 Q) hd (w0 := w0) (m0 := m0) (K := fun s => Q .normal s) (fun s a w h1 h2 => ⟨s, h1, h2⟩) _ s a w ht h)
/-- in a call that was put off, and that runs where nobody panics -/
theorem run_textS {ops : Array Oper} {Q : Exit → Act → List Frame → World → Prop} {c₀ : Frame} {fr : List Frame} (hc : c₀.mode = .returning) (hd : dstsOk n ops = true) {w0 : World} {m0 : GM} {K : GSt → Prop} (hK : ∀ s a w, Told n w0 m0 s a w → K s → Q .normal a (c₀ :: fr) w) : ∀ (L : List Nat) (s : GSt) (a : Act) (w : World), Told n w0 m0 s a w → RunT P true ops L s K → wpOpsS P ops Q L a (c₀ :: fr) w := by
  intro L
  induction L with
  | nil => intro s a w h hr; exact hK s a w h hr
  | cons i r ih =>
    intro s a w h hr
    obtain ⟨o, ho, hr⟩ := hr
    unfold wpOpsS
    rw [ho]
    simp only
    obtain ⟨m, q0, q1, h2, q4⟩ := h.ex
    have key : o.wp P a w (fun a' w' => wpOpsS P ops Q r a' (c₀ :: fr) w') (fun e a' w' => Q e a' (c₀ :: fr) w') →
        (match (execOp a.eval o).run P w with
        | .ok .recover w' =>
          match recoverD (c₀ :: fr) with
          | some (v, cs') => wpOpsS P ops Q r (a.put o.dst v) cs' w'
          | none => wpOpsS P ops Q r (a.put o.dst .nilIface) (c₀ :: fr) w'
        | res => o.upon P a (fun a' w' => wpOpsS P ops Q r a' (c₀ :: fr) w') (fun e a' w' => Q e a' (c₀ :: fr) w') res) := fun hwp => by
      unfold Oper.wp at hwp
      split
      · rename_i w' e; rw [e] at hwp; exact hwp.elim
      · exact hwp
    rcases hr with ⟨hw, v, H', hs, hr⟩ | ⟨hw, hr⟩ | ⟨hw, f, ats, id, fs, cs, e1, e2, hr⟩ | ⟨hw, _, xs, ats, e1, hr⟩
    · rw [if_pos (wanted1_rep h2 hw)]
      exact key (told_step (dsts_spec hd ho) h hs (fun a' w' h' => ih _ a' w' h' hr))
    · rw [if_neg (by rw [wanted1_rep h2 hw]; simp)]
      exact ih _ _ _ (told_skip (dsts_spec hd ho) h) hr
    · rw [if_pos (wanted1_rep h2 hw)]
      exact key (told_defer (dsts_spec hd ho) h e1 e2 (fun a' w' h' => ih _ a' w' h' hr))
    · rw [if_pos (wanted1_rep h2 hw)]
      have hrun : (execOp a.eval o).run P w = .ok .recover w := by
        obtain ⟨dst, op, ty0, pos, af, g⟩ := o
        simp only at e1
        subst e1
        simp [execOp, resolve, invoke, builtin]
      have hrec : recoverD (c₀ :: fr) = none := by simp [recoverD, hc]
      rw [hrun]
      simp only [hrec]
      refine ih ⟨uput s.sl o.dst (.c (.v .nilIface)), s.hp, s.df⟩ _ _ ⟨⟨m, q0, q1, put_rep h.size (dsts_spec hd ho) h2 (.c (.v _ rfl)), by rw [Fx.put_defers]; exact q4⟩, by rw [Fx.put_size]; exact h.size⟩ hr
theorem awp_region_any {id : Nat} {ops : List Oper} (order : List (Nat × Kd)) (hm : P.follows .mixedOrders = true) (hl : order.length = ops.length) (hall : ∀ j, j < ops.length → ∃ k, (j, k) ∈ order) (hp : PairsOk ops.toArray (maskN ops 0 0) order) (hs : ∀ x ∈ order, SelfOk ops.toArray x.1) (hd : dstsOk n ops.toArray = true) (h : RunL P ops.toArray order s (fun s => Q .normal s)) : awp P n (.region id ops.toArray true) Q s := fun w0 m0 a w ht =>
  wp_region_any hm (by
    refine run_any (K := fun s => Q .normal s) hd (fun s a w h1 h2 => ⟨s, h1, h2⟩) _ _ order s a _ (by simp [hl]) ⟨by simp, fun j hj => ?_, hp, hs, fun j hj => ?_⟩ ht.drew h
    · constructor
      · intro _; exact hall j (by simpa using hj)
      · intro _; simp at hj; simp [hj]
    · exfalso
      by_cases hlt : j < ops.length
      · simp [hlt] at hj
      · simp [hlt] at hj)
end
end Go.Proofs.YtoebfmhogkjmgaaGreatDoor.Gx
